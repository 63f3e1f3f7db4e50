/- The walks of the functions: printed. -/
import Derived.Test.YtbfjajoekcbodaaXzGe
set_option linter.unusedVariables false
set_option maxRecDepth 100000
namespace Go.X
open Go Go.RowKit Go.Proofs
/-! #### 23 campanile/ie.Decode -/
namespace F23
noncomputable def B : Code := bodyOf Try.f23
noncomputable def S0 : List It := (.code (sub B [1, 1]) :: [])
noncomputable def S1 : List It := (.code (sub B [1, 1, 1]) :: [])
noncomputable def S2 : List It := (.code (sub B [1, 1, 1, 1]) :: [])
noncomputable def S4 : List It := (.code (sub B [1, 1, 1, 1, 1]) :: [])
noncomputable def S5 : List It := (.code (sub B [1, 1, 1, 1, 1, 1, 1]) :: [])
noncomputable def S13 : List It := (.code (sub B [1, 1, 1, 1, 1, 1, 1, 1]) :: [])
noncomputable def S3 : List It := (.code (sub B [1, 1, 1, 0, 1]) :: S2)
noncomputable def S6 : List It := (.blk 0 :: S5)
noncomputable def S14 : List It := (.code (sub B [1, 1, 1, 1, 1, 1, 1, 0, 1]) :: S13)
noncomputable def S7 : List It := (.lp (sub B [1, 1, 1, 1, 1, 1, 0, 1, 0, 0]) :: S6)
noncomputable def S8 : List It := (.code (sub B [1, 1, 1, 1, 1, 1, 0, 1, 0, 0, 1, 1]) :: S7)
noncomputable def S9 : List It := (.code (sub B [1, 1, 1, 1, 1, 1, 0, 1, 0, 0, 1, 1, 1]) :: S7)
noncomputable def S10 : List It := (.blk 1 :: S9)
noncomputable def S11 : List It := (.code (sub B [1, 1, 1, 1, 1, 1, 0, 1, 0, 0, 1, 1, 0, 0, 1]) :: S10)
noncomputable def S12 : List It := (.code (sub B [1, 1, 1, 1, 1, 1, 0, 1, 0, 0, 1, 1, 0, 0, 1, 1]) :: S10)
def L0 (t4 t6a : Option Addr) (t6n t6k : Nat) (t19 t20 : Int) (H : Heap) (r : Value × Heap) : Prop := ∀ J, KR Try.prog good Try.f23 S7 (mat J 41 [(4, .pointer t4), (6, .slice t6a t6n t6k), (19, .int .i64 t19), (20, .int .i64 t20)]) H r
theorem L0_step {t4 t6a : Option Addr} {t6n t6k : Nat} {t19 t20 : Int} {H : Heap} {r : Value × Heap} (h :
    if t20 < t19 then
    (∃ (t24r0c0 t24r0c1 t24r0c2 t24r0c3 : Int) (t24r0c4a : Option Addr) (t24r0c4n t24r0c4k : Nat) (t24r1 : Int) (H_1 : Heap), xC Try.prog good 51 [.pointer t4] H = some (.tuple #[.agg #[.int .i64 t24r0c0, .int .i64 t24r0c1, .int .i64 t24r0c2, .int .i64 t24r0c3, .slice t24r0c4a t24r0c4n t24r0c4k], .int .i64 t24r1], H_1) ∧
    (∃ (H_2 : Heap), H_2 = H_1.push (.row [.int .i64 0, .int .i64 0, .int .i64 0, .int .i64 0, .slice none 0 0] true) ∧
    (∃ (H_3 : Heap), stc H_2 H_1.next 0 [.int .i64 t24r0c0, .int .i64 t24r0c1, .int .i64 t24r0c2, .int .i64 t24r0c3, .slice t24r0c4a t24r0c4n t24r0c4k] = some H_3 ∧
    (if t24r1 = 0 then
    (∃ (t31c0 t31c1 t31c2 t31c3 : Int) (t31c4a : Option Addr) (t31c4n t31c4k : Nat), ldAll H_3 H_1.next 0 [.int .i64 t31c0, .int .i64 t31c1, .int .i64 t31c2, .int .i64 t31c3, .slice t31c4a t31c4n t31c4k] ∧
    (∃ (H_4 : Heap), H_4 = H_3.push (.row [.int .i64 t31c0, .int .i64 t31c1, .int .i64 t31c2, .int .i64 t31c3, .slice t31c4a t31c4n t31c4k] true) ∧
    (∃ (t33a : Option Addr) (t33n t33k : Nat) (H_5 : Heap), papp H_4 5 56 t6a t6n t6k (some ⟨H_3.next, 0, none⟩) 1 (UNK 5) = some ((t33a, t33n, t33k), H_5) ∧
    (L0 t4 t33a t33n t33k t19 ((IntKind.wrap .i64 (t20 + 1))) H_5 r))))
    else
    (r = (.tuple #[.slice none 0 0, .int .i64 t24r1], H_3))))))
    else
    (∃ (t36 : Int) (H_6 : Heap), xC Try.prog good 52 [.pointer t4] H = some (.int .i64 t36, H_6) ∧
    (if t36 = 0 then
    (r = (.tuple #[.slice t6a t6n t6k, .int .i64 0], H_6))
    else
    (r = (.tuple #[.slice none 0 0, .int .i64 t36], H_6))))) :
    L0 t4 t6a t6n t6k t19 t20 H r := by
  intro J
  show KR _ _ _ (.lp (sub B [1, 1, 1, 1, 1, 1, 0, 1, 0, 0]) :: S6) _ _ _
  refine KR.go 6 [(4, .pointer t4), (6, .slice t6a t6n t6k), (19, .int .i64 t19), (20, .int .i64 t20), (21, .bool (decide (t20 < t19)))] 41 (s' := (.code (sub B [1, 1, 1, 1, 1, 1, 0, 1, 0, 0, 1, 0]) :: S8)) fun J => ?_
  by_cases c6 : t20 < t19
  · replace h := iteT c6 h
    refine KR.bb true (vB (dT c6)) ?_
    refine KR.go 6 [(4, .pointer t4), (6, .slice t6a t6n t6k), (19, .int .i64 t19), (20, .int .i64 t20), (23, .pointer t4)] 41 (s' := (.reg (opsAt (sub B [1, 1, 1, 1, 1, 1, 0, 1, 0, 0, 1, 1, 0, 0, 0])) [1, 2, 3, 4, 5, 6, 7] :: S11)) fun J => ?_
    obtain ⟨t24r0c0, t24r0c1, t24r0c2, t24r0c3, t24r0c4a, t24r0c4n, t24r0c4k, t24r1, H_1, q7, h⟩ := h
    refine KR.se (one_ca (by kernel_rfl) q7) ?_
    refine KR.go 3 [(4, .pointer t4), (6, .slice t6a t6n t6k), (19, .int .i64 t19), (20, .int .i64 t20), (25, .agg #[.int .i64 t24r0c0, .int .i64 t24r0c1, .int .i64 t24r0c2, .int .i64 t24r0c3, .slice t24r0c4a t24r0c4n t24r0c4k]), (26, .int .i64 t24r1)] 41 (s' := (.reg (opsAt (sub B [1, 1, 1, 1, 1, 1, 0, 1, 0, 0, 1, 1, 0, 0, 0])) [5, 6, 7] :: S11)) fun J => ?_
    obtain ⟨H_2, q8, h⟩ := h
    refine KR.mk (w := pRow [.int .i64 0, .int .i64 0, .int .i64 0, .int .i64 0, .slice none 0 0]) (one_al (by kernel_rfl)) q8 ?_
    obtain ⟨H_3, q9, h⟩ := h
    refine KR.se (one_st (by kernel_rfl) q9) ?_
    refine KR.go 8 [(4, .pointer t4), (6, .slice t6a t6n t6k), (7, .pointer (some ⟨H_1.next, 0, none⟩)), (8, .int .i64 t24r1), (19, .int .i64 t19), (20, .int .i64 t20), (28, .bool (!(t24r1 == 0)))] 41 (s' := (.code (sub B [1, 1, 1, 1, 1, 1, 0, 1, 0, 0, 1, 1, 0, 0, 1, 0, 1]) :: S12)) fun J => ?_
    by_cases c10 : t24r1 = 0
    · replace h := iteT c10 h
      refine KR.bb false (vB (nB (eT c10))) ?_
      refine KR.go 3 [(4, .pointer t4), (7, .pointer (some ⟨H_1.next, 0, none⟩)), (19, .int .i64 t19), (20, .int .i64 t20), (30, .slice t6a t6n t6k)] 41 (s' := (.reg (opsAt (sub B [1, 1, 1, 1, 1, 1, 0, 1, 0, 0, 1, 1, 0, 0, 1, 1])) [1, 2, 3, 4] :: S10)) fun J => ?_
      obtain ⟨t31c0, t31c1, t31c2, t31c3, t31c4a, t31c4n, t31c4k, q11, h⟩ := h
      refine KR.rd (one_ldA (by kernel_rfl) q11) ?_
      obtain ⟨H_4, q12, h⟩ := h
      refine KR.mk (w := sRow 1 5 [.int .i64 t31c0, .int .i64 t31c1, .int .i64 t31c2, .int .i64 t31c3, .slice t31c4a t31c4n t31c4k]) (one_al (by kernel_rfl)) q12 ?_
      obtain ⟨t33a, t33n, t33k, H_5, q13, h⟩ := h
      refine KR.se (one_ap 5 56 (by kernel_rfl) q13) ?_
      exact KR.go 7 [(4, .pointer t4), (6, .slice t33a t33n t33k), (19, .int .i64 t19), (20, .int .i64 (IntKind.wrap .i64 (t20 + 1)))] 41 (s' := (.lp (sub B [1, 1, 1, 1, 1, 1, 0, 1, 0, 0]) :: S6)) h
    · replace h := iteF c10 h
      refine KR.bb true (vB (nB (eF c10))) ?_
      refine KR.go 6 [(2, .slice none 0 0), (3, .int .i64 t24r1)] 41 (s' := (.code (sub B [1, 1, 1, 1, 1, 1, 0, 1, 0, 0, 1, 1, 0, 0, 1, 0, 1, 0, 1]) :: S12)) fun J => ?_
      exact KR.fi h
  · replace h := iteF c6 h
    refine KR.bb false (vB (dF c6)) ?_
    refine KR.go 5 [(6, .slice t6a t6n t6k), (35, .pointer t4)] 41 (s' := (.reg (opsAt (sub B [1, 1, 1, 1, 1, 1, 1, 0, 0])) [1, 2] :: S14)) fun J => ?_
    obtain ⟨t36, H_6, q14, h⟩ := h
    refine KR.se (one_ca (by kernel_rfl) q14) ?_
    refine KR.go 7 [(6, .slice t6a t6n t6k), (9, .int .i64 t36), (38, .bool (!(t36 == 0)))] 41 (s' := (.code (sub B [1, 1, 1, 1, 1, 1, 1, 0, 1, 1]) :: S13)) fun J => ?_
    by_cases c15 : t36 = 0
    · replace h := iteT c15 h
      refine KR.bb false (vB (nB (eT c15))) ?_
      refine KR.go 7 [(2, .slice t6a t6n t6k), (3, .int .i64 0)] 41 (s' := (.code (sub B [1, 1, 1, 1, 1, 1, 1, 1, 1]) :: [])) fun J => ?_
      exact KR.fi h
    · replace h := iteF c15 h
      refine KR.bb true (vB (nB (eF c15))) ?_
      refine KR.go 6 [(2, .slice none 0 0), (3, .int .i64 t36)] 41 (s' := (.code (sub B [1, 1, 1, 1, 1, 1, 1, 0, 1, 1, 0, 1]) :: S13)) fun J => ?_
      exact KR.fi h
theorem call {a0a : Option Addr} {a0n a0k : Nat} {H : Heap} {r : Value × Heap} (h :
    ∃ (t11 : Option Addr) (H_1 : Heap), xC Try.prog good 48 [.slice a0a a0n a0k] H = some (.pointer t11, H_1) ∧
    (∃ (t13 : Int) (H_2 : Heap), xC Try.prog good 49 [.pointer t11, .int .i64 8] H_1 = some (.int .u64 t13, H_2) ∧
    (∃ (t16 : Bool) (H_3 : Heap), xC Try.prog good 50 [.pointer t11] H_2 = some (.bool t16, H_3) ∧
    (if t16 = true then
    (r = (.tuple #[.slice none 0 0, .int .i64 2], H_3))
    else
    (if (IntKind.wrap .i64 t13) > 4 then
    (r = (.tuple #[.slice none 0 0, .int .i64 3], H_3))
    else
    (L0 t11 none 0 0 ((IntKind.wrap .i64 t13)) 0 H_3 r)))))) :
    xC Try.prog good 23 [.slice a0a a0n a0k] H = some r := by
  refine KR.enter (fn := Try.f23) (c := B) (by kernel_rfl) (by kernel_rfl) ?_
  refine KR.go 8 [(10, .slice a0a a0n a0k)] 41 (s' := (.reg (opsAt (sub B [1, 0])) [1, 2] :: S0)) fun J => ?_
  obtain ⟨t11, H_1, q1, h⟩ := h
  refine KR.se (one_ca (by kernel_rfl) q1) ?_
  refine KR.go 5 [(4, .pointer t11), (12, .pointer t11)] 41 (s' := (.reg (opsAt (sub B [1, 1, 0])) [1, 2, 3] :: S1)) fun J => ?_
  obtain ⟨t13, H_2, q2, h⟩ := h
  refine KR.se (one_ca (by kernel_rfl) q2) ?_
  refine KR.go 7 [(4, .pointer t11), (5, .int .i64 (IntKind.wrap .i64 t13)), (15, .pointer t11)] 41 (s' := (.reg (opsAt (sub B [1, 1, 1, 0, 0])) [1] :: S3)) fun J => ?_
  obtain ⟨t16, H_3, q3, h⟩ := h
  refine KR.se (one_ca (by kernel_rfl) q3) ?_
  refine KR.go 1 [(4, .pointer t11), (5, .int .i64 (IntKind.wrap .i64 t13)), (16, .bool t16)] 41 (s' := (.code (sub B [1, 1, 1, 0, 1]) :: S2)) fun J => ?_
  by_cases c4 : t16 = true
  · replace h := iteT c4 h
    refine KR.bb true (vB (bT c4)) ?_
    refine KR.go 5 [(2, .slice none 0 0), (3, .int .i64 2)] 41 (s' := (.code (sub B [1, 1, 1, 0, 1, 0, 1]) :: S2)) fun J => ?_
    exact KR.fi h
  · replace h := iteF c4 h
    refine KR.bb false (vB (bF c4)) ?_
    refine KR.go 7 [(4, .pointer t11), (5, .int .i64 (IntKind.wrap .i64 t13)), (18, .bool (decide ((IntKind.wrap .i64 t13) > 4)))] 41 (s' := (.code (sub B [1, 1, 1, 1, 0, 1]) :: S4)) fun J => ?_
    by_cases c5 : (IntKind.wrap .i64 t13) > 4
    · replace h := iteT c5 h
      refine KR.bb true (vB (dT c5)) ?_
      refine KR.go 5 [(2, .slice none 0 0), (3, .int .i64 3)] 41 (s' := (.code (sub B [1, 1, 1, 1, 0, 1, 0, 1]) :: S4)) fun J => ?_
      exact KR.fi h
    · replace h := iteF c5 h
      refine KR.bb false (vB (dF c5)) ?_
      exact KR.go 13 [(4, .pointer t11), (6, .slice none 0 0), (19, .int .i64 (IntKind.wrap .i64 t13)), (20, .int .i64 0)] 41 (s' := (.lp (sub B [1, 1, 1, 1, 1, 1, 0, 1, 0, 0]) :: S6)) h
end F23
/-! #### 50 campanile/ie.short -/
namespace F50
noncomputable def B : Code := bodyOf Try.f50
noncomputable def S0 : List It := (.code (sub B [1, 1]) :: [])
theorem call {a0 : Option Addr} {H : Heap} {r : Value × Heap} (h :
    ∃ (t4 : Int) (H_1 : Heap), xC Try.prog good 52 [.pointer a0] H = some (.int .i64 t4, H_1) ∧
    (r = (.bool (t4 == 2), H_1))) :
    xC Try.prog good 50 [.pointer a0] H = some r := by
  refine KR.enter (fn := Try.f50) (c := B) (by kernel_rfl) (by kernel_rfl) ?_
  refine KR.go 7 [(3, .pointer a0)] 6 (s' := (.reg (opsAt (sub B [1, 0])) [1, 2, 3] :: S0)) fun J => ?_
  obtain ⟨t4, H_1, q1, h⟩ := h
  refine KR.se (one_ca (by kernel_rfl) q1) ?_
  refine KR.go 3 [(2, .bool (t4 == 2))] 6 (s' := (.code (sub B [1, 1]) :: [])) fun J => ?_
  exact KR.fi h
end F50
/-! #### 51 campanile/ie.one -/
namespace F51
noncomputable def B : Code := bodyOf Try.f51
noncomputable def S0 : List It := (.code (sub B [1]) :: [])
noncomputable def S1 : List It := (.code (sub B [1, 1]) :: [])
noncomputable def S2 : List It := (.code (sub B [1, 1, 1]) :: [])
noncomputable def S5 : List It := (.code (sub B [1, 1, 1, 1]) :: [])
noncomputable def S8 : List It := (.code (sub B [1, 1, 1, 1, 1]) :: [])
noncomputable def S9 : List It := (.code (sub B [1, 1, 1, 1, 1, 1]) :: [])
noncomputable def S12 : List It := (.code (sub B [1, 1, 1, 1, 1, 1, 1]) :: [])
noncomputable def S14 : List It := (.code (sub B [1, 1, 1, 1, 1, 1, 1, 1]) :: [])
noncomputable def S15 : List It := (.code (sub B [1, 1, 1, 1, 1, 1, 1, 1, 1]) :: [])
noncomputable def S18 : List It := (.code (sub B [1, 1, 1, 1, 1, 1, 1, 1, 1, 1]) :: [])
noncomputable def S3 : List It := (.code (sub B [1, 1, 0, 1]) :: S2)
noncomputable def S4 : List It := (.code (sub B [1, 1, 0, 1, 0, 1]) :: S2)
noncomputable def S6 : List It := (.code (sub B [1, 1, 1, 0, 1]) :: S5)
noncomputable def S7 : List It := (.code (sub B [1, 1, 1, 0, 1, 0, 1]) :: S5)
noncomputable def S10 : List It := (.code (sub B [1, 1, 1, 1, 1, 0, 1]) :: S9)
noncomputable def S11 : List It := (.code (sub B [1, 1, 1, 1, 1, 0, 1, 0, 1]) :: S9)
noncomputable def S13 : List It := (.code (sub B [1, 1, 1, 1, 1, 1, 0, 1]) :: S12)
noncomputable def S16 : List It := (.code (sub B [1, 1, 1, 1, 1, 1, 1, 1, 0, 1]) :: S15)
noncomputable def S17 : List It := (.code (sub B [1, 1, 1, 1, 1, 1, 1, 1, 0, 1, 0, 1]) :: S15)
noncomputable def S19 : List It := (.code (sub B [1, 1, 1, 1, 1, 1, 0, 1, 0, 1]) :: S12)
theorem call {a0 : Option Addr} {H : Heap} {r : Value × Heap} (h :
    ∃ (H_1 : Heap), H_1 = H.push (.row [.int .i64 0, .int .i64 0, .int .i64 0, .int .i64 0, .slice none 0 0] true) ∧
    (∃ (t8 : Int) (H_2 : Heap), xC Try.prog good 49 [.pointer a0, .int .i64 8] H_1 = some (.int .u64 t8, H_2) ∧
    (∃ (t11 : Bool) (H_3 : Heap), xC Try.prog good 50 [.pointer a0] H_2 = some (.bool t11, H_3) ∧
    (if t11 = true then
    (∃ (H_4 : Heap), stc H_3 H.next 0 [.int .i64 0, .int .i64 0, .int .i64 0, .int .i64 0, .slice none 0 0] = some H_4 ∧
    (∃ (r2c0 r2c1 r2c2 r2c3 : Int) (r2c4a : Option Addr) (r2c4n r2c4k : Nat), ldAll H_4 H.next 0 [.int .i64 r2c0, .int .i64 r2c1, .int .i64 r2c2, .int .i64 r2c3, .slice r2c4a r2c4n r2c4k] ∧
    (r = (.tuple #[.agg #[.int .i64 r2c0, .int .i64 r2c1, .int .i64 r2c2, .int .i64 r2c3, .slice r2c4a r2c4n r2c4k], .int .i64 2], H_4))))
    else
    (∃ (t15 : Value) (H_5 : Heap), xC Try.prog good 37 [.agg #[.int .i64 (IntKind.wrap .i64 t8), .int .i64 0, .int .i64 0, .int .i64 0, .slice none 0 0]] H_3 = some (t15, H_5) ∧
    ((t15 = .nilIface ∧
    (∃ (H_6 : Heap), stc H_5 H.next 0 [.int .i64 0, .int .i64 0, .int .i64 0, .int .i64 0, .slice none 0 0] = some H_6 ∧
    (∃ (r2c0_1 r2c1_1 r2c2_1 r2c3_1 : Int) (r2c4a_1 : Option Addr) (r2c4n_1 r2c4k_1 : Nat), ldAll H_6 H.next 0 [.int .i64 r2c0_1, .int .i64 r2c1_1, .int .i64 r2c2_1, .int .i64 r2c3_1, .slice r2c4a_1 r2c4n_1 r2c4k_1] ∧
    (r = (.tuple #[.agg #[.int .i64 r2c0_1, .int .i64 r2c1_1, .int .i64 r2c2_1, .int .i64 r2c3_1, .slice r2c4a_1 r2c4n_1 r2c4k_1], .int .i64 3], H_6))))) ∨
    (∃ (t15t : Nat) (t15v : Value), t15 = .iface t15t t15v ∧
    (∃ (t19 : Int) (H_7 : Heap), xC Try.prog good 49 [.pointer a0, .int .i64 8] H_5 = some (.int .u64 t19, H_7) ∧
    (∃ (t22 : Bool) (H_8 : Heap), xC Try.prog good 50 [.pointer a0] H_7 = some (.bool t22, H_8) ∧
    (if t22 = true then
    (∃ (H_9 : Heap), stc H_8 H.next 0 [.int .i64 0, .int .i64 0, .int .i64 0, .int .i64 0, .slice none 0 0] = some H_9 ∧
    (∃ (r2c0_2 r2c1_2 r2c2_2 r2c3_2 : Int) (r2c4a_2 : Option Addr) (r2c4n_2 r2c4k_2 : Nat), ldAll H_9 H.next 0 [.int .i64 r2c0_2, .int .i64 r2c1_2, .int .i64 r2c2_2, .int .i64 r2c3_2, .slice r2c4a_2 r2c4n_2 r2c4k_2] ∧
    (r = (.tuple #[.agg #[.int .i64 r2c0_2, .int .i64 r2c1_2, .int .i64 r2c2_2, .int .i64 r2c3_2, .slice r2c4a_2 r2c4n_2 r2c4k_2], .int .i64 2], H_9))))
    else
    (∃ (t26 : Bool) (H_10 : Heap), xC Try.prog good 74 [.int .i64 (IntKind.wrap .i64 t8), .int .i64 (IntKind.wrap .i64 t19)] H_8 = some (.bool t26, H_10) ∧
    (if t26 = true then
    (∃ (t32c0 t32c1 t32c2 t32c3 : Int) (t32c4a : Option Addr) (t32c4n t32c4k : Nat) (H_11 : Heap), xC Try.prog good 75 [.pointer a0, .int .i64 (IntKind.wrap .i64 t8), .int .i64 (IntKind.wrap .i64 t19)] H_10 = some (.agg #[.int .i64 t32c0, .int .i64 t32c1, .int .i64 t32c2, .int .i64 t32c3, .slice t32c4a t32c4n t32c4k], H_11) ∧
    (∃ (H_12 : Heap), H_12 = H_11.push (.row [.int .i64 0, .int .i64 0, .int .i64 0, .int .i64 0, .slice none 0 0] true) ∧
    (∃ (H_13 : Heap), stc H_12 H_11.next 0 [.int .i64 t32c0, .int .i64 t32c1, .int .i64 t32c2, .int .i64 t32c3, .slice t32c4a t32c4n t32c4k] = some H_13 ∧
    (∃ (t34 : Bool) (H_14 : Heap), xC Try.prog good 50 [.pointer a0] H_13 = some (.bool t34, H_14) ∧
    (if t34 = true then
    (∃ (H_15 : Heap), stc H_14 H.next 0 [.int .i64 0, .int .i64 0, .int .i64 0, .int .i64 0, .slice none 0 0] = some H_15 ∧
    (∃ (r2c0_3 r2c1_3 r2c2_3 r2c3_3 : Int) (r2c4a_3 : Option Addr) (r2c4n_3 r2c4k_3 : Nat), ldAll H_15 H.next 0 [.int .i64 r2c0_3, .int .i64 r2c1_3, .int .i64 r2c2_3, .int .i64 r2c3_3, .slice r2c4a_3 r2c4n_3 r2c4k_3] ∧
    (r = (.tuple #[.agg #[.int .i64 r2c0_3, .int .i64 r2c1_3, .int .i64 r2c2_3, .int .i64 r2c3_3, .slice r2c4a_3 r2c4n_3 r2c4k_3], .int .i64 2], H_15))))
    else
    (∃ (t36c0 t36c1 t36c2 t36c3 : Int) (t36c4a : Option Addr) (t36c4n t36c4k : Nat), ldAll H_14 H_11.next 0 [.int .i64 t36c0, .int .i64 t36c1, .int .i64 t36c2, .int .i64 t36c3, .slice t36c4a t36c4n t36c4k] ∧
    (∃ (H_16 : Heap), stc H_14 H.next 0 [.int .i64 t36c0, .int .i64 t36c1, .int .i64 t36c2, .int .i64 t36c3, .slice t36c4a t36c4n t36c4k] = some H_16 ∧
    (∃ (r2c0_4 r2c1_4 r2c2_4 r2c3_4 : Int) (r2c4a_4 : Option Addr) (r2c4n_4 r2c4k_4 : Nat), ldAll H_16 H.next 0 [.int .i64 r2c0_4, .int .i64 r2c1_4, .int .i64 r2c2_4, .int .i64 r2c3_4, .slice r2c4a_4 r2c4n_4 r2c4k_4] ∧
    (r = (.tuple #[.agg #[.int .i64 r2c0_4, .int .i64 r2c1_4, .int .i64 r2c2_4, .int .i64 r2c3_4, .slice r2c4a_4 r2c4n_4 r2c4k_4], .int .i64 0], H_16))))))))))
    else
    (∃ (H_17 : Heap), stc H_10 H.next 0 [.int .i64 0, .int .i64 0, .int .i64 0, .int .i64 0, .slice none 0 0] = some H_17 ∧
    (∃ (r2c0_5 r2c1_5 r2c2_5 r2c3_5 : Int) (r2c4a_5 : Option Addr) (r2c4n_5 r2c4k_5 : Nat), ldAll H_17 H.next 0 [.int .i64 r2c0_5, .int .i64 r2c1_5, .int .i64 r2c2_5, .int .i64 r2c3_5, .slice r2c4a_5 r2c4n_5 r2c4k_5] ∧
    (r = (.tuple #[.agg #[.int .i64 r2c0_5, .int .i64 r2c1_5, .int .i64 r2c2_5, .int .i64 r2c3_5, .slice r2c4a_5 r2c4n_5 r2c4k_5], .int .i64 3], H_17)))))))))))))))) :
    xC Try.prog good 51 [.pointer a0] H = some r := by
  refine KR.enter (fn := Try.f51) (c := B) (by kernel_rfl) (by kernel_rfl) ?_
  refine KR.go 2 [(0, .pointer a0)] 37 (s' := (.reg (opsAt (sub B [0])) [0, 1] :: S0)) fun J => ?_
  obtain ⟨H_1, q1, h⟩ := h
  refine KR.mk (w := pRow [.int .i64 0, .int .i64 0, .int .i64 0, .int .i64 0, .slice none 0 0]) (one_al (by kernel_rfl)) q1 ?_
  refine KR.go 5 [(0, .pointer a0), (2, .pointer (some ⟨H.next, 0, none⟩)), (7, .pointer a0)] 37 (s' := (.reg (opsAt (sub B [1, 0])) [1, 2, 3] :: S1)) fun J => ?_
  obtain ⟨t8, H_2, q2, h⟩ := h
  refine KR.se (one_ca (by kernel_rfl) q2) ?_
  refine KR.go 7 [(0, .pointer a0), (2, .pointer (some ⟨H.next, 0, none⟩)), (4, .int .i64 (IntKind.wrap .i64 t8)), (10, .pointer a0)] 37 (s' := (.reg (opsAt (sub B [1, 1, 0, 0])) [1] :: S3)) fun J => ?_
  obtain ⟨t11, H_3, q3, h⟩ := h
  refine KR.se (one_ca (by kernel_rfl) q3) ?_
  refine KR.go 1 [(0, .pointer a0), (2, .pointer (some ⟨H.next, 0, none⟩)), (4, .int .i64 (IntKind.wrap .i64 t8)), (11, .bool t11)] 37 (s' := (.code (sub B [1, 1, 0, 1]) :: S2)) fun J => ?_
  by_cases c4 : t11 = true
  · replace h := iteT c4 h
    refine KR.bb true (vB (bT c4)) ?_
    refine KR.go 3 [(2, .pointer (some ⟨H.next, 0, none⟩)), (12, .agg #[.int .i64 0, .int .i64 0, .int .i64 0, .int .i64 0, .slice none 0 0])] 37 (s' := (.reg (opsAt (sub B [1, 1, 0, 1, 0, 0])) [1, 2] :: S4)) fun J => ?_
    obtain ⟨H_4, q5, h⟩ := h
    refine KR.se (one_st (by kernel_rfl) q5) ?_
    refine KR.go 2 [(2, .pointer (some ⟨H.next, 0, none⟩)), (3, .int .i64 2)] 37 (s' := (.code (sub B [1, 1, 0, 1, 0, 1]) :: S2)) fun J => ?_
    obtain ⟨r2c0, r2c1, r2c2, r2c3, r2c4a, r2c4n, r2c4k, q6, h⟩ := h
    exact KR.finR (l := [.cell 2 24, .tmp 3]) (vs := [.agg #[.int .i64 r2c0, .int .i64 r2c1, .int .i64 r2c2, .int .i64 r2c3, .slice r2c4a r2c4n r2c4k], .int .i64 2]) (by kernel_rfl) (Res.cellA (by kernel_rfl) q6 (Res.tmp (by kernel_rfl) Res.nil)) (by kernel_rfl) h
  · replace h := iteF c4 h
    refine KR.bb false (vB (bF c4)) ?_
    refine KR.go 6 [(0, .pointer a0), (2, .pointer (some ⟨H.next, 0, none⟩)), (4, .int .i64 (IntKind.wrap .i64 t8)), (14, .agg #[.int .i64 (IntKind.wrap .i64 t8), .int .i64 0, .int .i64 0, .int .i64 0, .slice none 0 0])] 37 (s' := (.reg (opsAt (sub B [1, 1, 1, 0, 0])) [2, 3] :: S6)) fun J => ?_
    obtain ⟨t15, H_5, q7, h⟩ := h
    refine KR.se (one_ca (by kernel_rfl) q7) ?_
    rcases h with ⟨rfl, h⟩ | ⟨t15t, t15v, rfl, h⟩
    · refine KR.go 6 [(2, .pointer (some ⟨H.next, 0, none⟩)), (17, .agg #[.int .i64 0, .int .i64 0, .int .i64 0, .int .i64 0, .slice none 0 0])] 37 (s' := (.reg (opsAt (sub B [1, 1, 1, 0, 1, 0, 0])) [1, 2] :: S7)) fun J => ?_
      obtain ⟨H_6, q8, h⟩ := h
      refine KR.se (one_st (by kernel_rfl) q8) ?_
      refine KR.go 2 [(2, .pointer (some ⟨H.next, 0, none⟩)), (3, .int .i64 3)] 37 (s' := (.code (sub B [1, 1, 1, 0, 1, 0, 1]) :: S5)) fun J => ?_
      obtain ⟨r2c0_1, r2c1_1, r2c2_1, r2c3_1, r2c4a_1, r2c4n_1, r2c4k_1, q9, h⟩ := h
      exact KR.finR (l := [.cell 2 24, .tmp 3]) (vs := [.agg #[.int .i64 r2c0_1, .int .i64 r2c1_1, .int .i64 r2c2_1, .int .i64 r2c3_1, .slice r2c4a_1 r2c4n_1 r2c4k_1], .int .i64 3]) (by kernel_rfl) (Res.cellA (by kernel_rfl) q9 (Res.tmp (by kernel_rfl) Res.nil)) (by kernel_rfl) h
    · refine KR.go 7 [(0, .pointer a0), (2, .pointer (some ⟨H.next, 0, none⟩)), (4, .int .i64 (IntKind.wrap .i64 t8)), (18, .pointer a0)] 37 (s' := (.reg (opsAt (sub B [1, 1, 1, 1, 0])) [1, 2, 3] :: S8)) fun J => ?_
      obtain ⟨t19, H_7, q10, h⟩ := h
      refine KR.se (one_ca (by kernel_rfl) q10) ?_
      refine KR.go 7 [(0, .pointer a0), (2, .pointer (some ⟨H.next, 0, none⟩)), (4, .int .i64 (IntKind.wrap .i64 t8)), (5, .int .i64 (IntKind.wrap .i64 t19)), (21, .pointer a0)] 37 (s' := (.reg (opsAt (sub B [1, 1, 1, 1, 1, 0, 0])) [1] :: S10)) fun J => ?_
      obtain ⟨t22, H_8, q11, h⟩ := h
      refine KR.se (one_ca (by kernel_rfl) q11) ?_
      refine KR.go 1 [(0, .pointer a0), (2, .pointer (some ⟨H.next, 0, none⟩)), (4, .int .i64 (IntKind.wrap .i64 t8)), (5, .int .i64 (IntKind.wrap .i64 t19)), (22, .bool t22)] 37 (s' := (.code (sub B [1, 1, 1, 1, 1, 0, 1]) :: S9)) fun J => ?_
      by_cases c12 : t22 = true
      · replace h := iteT c12 h
        refine KR.bb true (vB (bT c12)) ?_
        refine KR.go 3 [(2, .pointer (some ⟨H.next, 0, none⟩)), (23, .agg #[.int .i64 0, .int .i64 0, .int .i64 0, .int .i64 0, .slice none 0 0])] 37 (s' := (.reg (opsAt (sub B [1, 1, 1, 1, 1, 0, 1, 0, 0])) [1, 2] :: S11)) fun J => ?_
        obtain ⟨H_9, q13, h⟩ := h
        refine KR.se (one_st (by kernel_rfl) q13) ?_
        refine KR.go 2 [(2, .pointer (some ⟨H.next, 0, none⟩)), (3, .int .i64 2)] 37 (s' := (.code (sub B [1, 1, 1, 1, 1, 0, 1, 0, 1]) :: S9)) fun J => ?_
        obtain ⟨r2c0_2, r2c1_2, r2c2_2, r2c3_2, r2c4a_2, r2c4n_2, r2c4k_2, q14, h⟩ := h
        exact KR.finR (l := [.cell 2 24, .tmp 3]) (vs := [.agg #[.int .i64 r2c0_2, .int .i64 r2c1_2, .int .i64 r2c2_2, .int .i64 r2c3_2, .slice r2c4a_2 r2c4n_2 r2c4k_2], .int .i64 2]) (by kernel_rfl) (Res.cellA (by kernel_rfl) q14 (Res.tmp (by kernel_rfl) Res.nil)) (by kernel_rfl) h
      · replace h := iteF c12 h
        refine KR.bb false (vB (bF c12)) ?_
        refine KR.go 6 [(0, .pointer a0), (2, .pointer (some ⟨H.next, 0, none⟩)), (4, .int .i64 (IntKind.wrap .i64 t8)), (5, .int .i64 (IntKind.wrap .i64 t19)), (24, .int .i64 (IntKind.wrap .i64 t8)), (25, .int .i64 (IntKind.wrap .i64 t19))] 37 (s' := (.reg (opsAt (sub B [1, 1, 1, 1, 1, 1, 0, 0])) [2, 3] :: S13)) fun J => ?_
        obtain ⟨t26, H_10, q15, h⟩ := h
        refine KR.se (one_ca (by kernel_rfl) q15) ?_
        refine KR.go 2 [(0, .pointer a0), (2, .pointer (some ⟨H.next, 0, none⟩)), (4, .int .i64 (IntKind.wrap .i64 t8)), (5, .int .i64 (IntKind.wrap .i64 t19)), (27, .bool (!t26))] 37 (s' := (.code (sub B [1, 1, 1, 1, 1, 1, 0, 1]) :: S12)) fun J => ?_
        by_cases c16 : t26 = true
        · replace h := iteT c16 h
          refine KR.bb false (vB (nB (bT c16))) ?_
          refine KR.go 6 [(0, .pointer a0), (2, .pointer (some ⟨H.next, 0, none⟩)), (29, .pointer a0), (30, .int .i64 (IntKind.wrap .i64 t8)), (31, .int .i64 (IntKind.wrap .i64 t19))] 37 (s' := (.reg (opsAt (sub B [1, 1, 1, 1, 1, 1, 1, 0])) [3, 4, 5] :: S14)) fun J => ?_
          obtain ⟨t32c0, t32c1, t32c2, t32c3, t32c4a, t32c4n, t32c4k, H_11, q17, h⟩ := h
          refine KR.se (one_ca (by kernel_rfl) q17) ?_
          obtain ⟨H_12, q18, h⟩ := h
          refine KR.mk (w := pRow [.int .i64 0, .int .i64 0, .int .i64 0, .int .i64 0, .slice none 0 0]) (one_al (by kernel_rfl)) q18 ?_
          obtain ⟨H_13, q19, h⟩ := h
          refine KR.se (one_st (by kernel_rfl) q19) ?_
          refine KR.go 5 [(2, .pointer (some ⟨H.next, 0, none⟩)), (6, .pointer (some ⟨H_11.next, 0, none⟩)), (33, .pointer a0)] 37 (s' := (.reg (opsAt (sub B [1, 1, 1, 1, 1, 1, 1, 1, 0, 0])) [1] :: S16)) fun J => ?_
          obtain ⟨t34, H_14, q20, h⟩ := h
          refine KR.se (one_ca (by kernel_rfl) q20) ?_
          refine KR.go 1 [(2, .pointer (some ⟨H.next, 0, none⟩)), (6, .pointer (some ⟨H_11.next, 0, none⟩)), (34, .bool t34)] 37 (s' := (.code (sub B [1, 1, 1, 1, 1, 1, 1, 1, 0, 1]) :: S15)) fun J => ?_
          by_cases c21 : t34 = true
          · replace h := iteT c21 h
            refine KR.bb true (vB (bT c21)) ?_
            refine KR.go 3 [(2, .pointer (some ⟨H.next, 0, none⟩)), (35, .agg #[.int .i64 0, .int .i64 0, .int .i64 0, .int .i64 0, .slice none 0 0])] 37 (s' := (.reg (opsAt (sub B [1, 1, 1, 1, 1, 1, 1, 1, 0, 1, 0, 0])) [1, 2] :: S17)) fun J => ?_
            obtain ⟨H_15, q22, h⟩ := h
            refine KR.se (one_st (by kernel_rfl) q22) ?_
            refine KR.go 2 [(2, .pointer (some ⟨H.next, 0, none⟩)), (3, .int .i64 2)] 37 (s' := (.code (sub B [1, 1, 1, 1, 1, 1, 1, 1, 0, 1, 0, 1]) :: S15)) fun J => ?_
            obtain ⟨r2c0_3, r2c1_3, r2c2_3, r2c3_3, r2c4a_3, r2c4n_3, r2c4k_3, q23, h⟩ := h
            exact KR.finR (l := [.cell 2 24, .tmp 3]) (vs := [.agg #[.int .i64 r2c0_3, .int .i64 r2c1_3, .int .i64 r2c2_3, .int .i64 r2c3_3, .slice r2c4a_3 r2c4n_3 r2c4k_3], .int .i64 2]) (by kernel_rfl) (Res.cellA (by kernel_rfl) q23 (Res.tmp (by kernel_rfl) Res.nil)) (by kernel_rfl) h
          · replace h := iteF c21 h
            refine KR.bb false (vB (bF c21)) ?_
            refine KR.go 3 [(2, .pointer (some ⟨H.next, 0, none⟩)), (6, .pointer (some ⟨H_11.next, 0, none⟩))] 37 (s' := (.reg (opsAt (sub B [1, 1, 1, 1, 1, 1, 1, 1, 1, 0])) [0, 1, 2] :: S18)) fun J => ?_
            obtain ⟨t36c0, t36c1, t36c2, t36c3, t36c4a, t36c4n, t36c4k, q24, h⟩ := h
            refine KR.rd (one_ldA (by kernel_rfl) q24) ?_
            obtain ⟨H_16, q25, h⟩ := h
            refine KR.se (one_st (by kernel_rfl) q25) ?_
            refine KR.go 2 [(2, .pointer (some ⟨H.next, 0, none⟩)), (3, .int .i64 0)] 37 (s' := (.code (sub B [1, 1, 1, 1, 1, 1, 1, 1, 1, 1]) :: [])) fun J => ?_
            obtain ⟨r2c0_4, r2c1_4, r2c2_4, r2c3_4, r2c4a_4, r2c4n_4, r2c4k_4, q26, h⟩ := h
            exact KR.finR (l := [.cell 2 24, .tmp 3]) (vs := [.agg #[.int .i64 r2c0_4, .int .i64 r2c1_4, .int .i64 r2c2_4, .int .i64 r2c3_4, .slice r2c4a_4 r2c4n_4 r2c4k_4], .int .i64 0]) (by kernel_rfl) (Res.cellA (by kernel_rfl) q26 (Res.tmp (by kernel_rfl) Res.nil)) (by kernel_rfl) h
        · replace h := iteF c16 h
          refine KR.bb true (vB (nB (bF c16))) ?_
          refine KR.go 3 [(2, .pointer (some ⟨H.next, 0, none⟩)), (28, .agg #[.int .i64 0, .int .i64 0, .int .i64 0, .int .i64 0, .slice none 0 0])] 37 (s' := (.reg (opsAt (sub B [1, 1, 1, 1, 1, 1, 0, 1, 0, 0])) [1, 2] :: S19)) fun J => ?_
          obtain ⟨H_17, q27, h⟩ := h
          refine KR.se (one_st (by kernel_rfl) q27) ?_
          refine KR.go 2 [(2, .pointer (some ⟨H.next, 0, none⟩)), (3, .int .i64 3)] 37 (s' := (.code (sub B [1, 1, 1, 1, 1, 1, 0, 1, 0, 1]) :: S12)) fun J => ?_
          obtain ⟨r2c0_5, r2c1_5, r2c2_5, r2c3_5, r2c4a_5, r2c4n_5, r2c4k_5, q28, h⟩ := h
          exact KR.finR (l := [.cell 2 24, .tmp 3]) (vs := [.agg #[.int .i64 r2c0_5, .int .i64 r2c1_5, .int .i64 r2c2_5, .int .i64 r2c3_5, .slice r2c4a_5 r2c4n_5 r2c4k_5], .int .i64 3]) (by kernel_rfl) (Res.cellA (by kernel_rfl) q28 (Res.tmp (by kernel_rfl) Res.nil)) (by kernel_rfl) h
end F51
/-! #### 74 campanile/ie.right -/
namespace F74
noncomputable def B : Code := bodyOf Try.f74
noncomputable def S0 : List It := (.code (sub B [1, 1]) :: [])
noncomputable def S1 : List It := (.code (sub B [1, 0, 1]) :: S0)
noncomputable def S2 : List It := (.blk 0 :: S0)
noncomputable def S3 : List It := (.code (sub B [1, 0, 1, 1, 0, 1]) :: S2)
noncomputable def S4 : List It := (.code (sub B [1, 0, 1, 1, 0, 1, 1, 1]) :: S2)
theorem call {a0 a1 : Int} {H : Heap} {r : Value × Heap} (h :
    ∃ (t8 : Value) (H_1 : Heap), xC Try.prog good 37 [.agg #[.int .i64 a0, .int .i64 0, .int .i64 0, .int .i64 0, .slice none 0 0]] H = some (t8, H_1) ∧
    ((t8 = .nilIface ∧
    (r = (.bool (decide (a1 ≤ 16)), H_1))) ∨
    (∃ (t8t : Nat) (t8v : Value), t8 = .iface t8t t8v ∧
    (if t8t = 94 then
    (∃ (t10yc0 t10yc1 : Int), t8v = .agg #[.int .i64 t10yc0, .int .i64 t10yc1] ∧
    (r = (.bool (a1 == 6), H_1)))
    else
    (if t8t = 96 then
    (∃ (t15yc0 : Int), t8v = .agg #[.int .i64 t15yc0] ∧
    (r = (.bool (a1 == 2), H_1)))
    else
    (r = (.bool (decide (a1 ≤ 16)), H_1))))))) :
    xC Try.prog good 74 [.int .i64 a0, .int .i64 a1] H = some r := by
  refine KR.enter (fn := Try.f74) (c := B) (by kernel_rfl) (by kernel_rfl) ?_
  refine KR.go 9 [(1, .int .i64 a1), (7, .agg #[.int .i64 a0, .int .i64 0, .int .i64 0, .int .i64 0, .slice none 0 0])] 22 (s' := (.reg (opsAt (sub B [1, 0, 0])) [2, 3] :: S1)) fun J => ?_
  obtain ⟨t8, H_1, q1, h⟩ := h
  refine KR.se (one_ca (by kernel_rfl) q1) ?_
  rcases h with ⟨rfl, h⟩ | ⟨t8t, t8v, rfl, h⟩
  · refine KR.go 29 [(4, .bool (decide (a1 ≤ 16)))] 22 (s' := (.code (sub B [1, 1, 1]) :: [])) fun J => ?_
    exact KR.fi h
  · refine KR.go 9 [(1, .int .i64 a1), (9, .iface t8t t8v)] 22 (s' := (.reg (opsAt (sub B [1, 0, 1, 1, 0, 0])) [0, 1, 2] :: S3)) fun J => ?_
    by_cases c3 : t8t = 94
    · replace h := iteT c3 h
      subst c3
      obtain ⟨t10yc0, t10yc1, rfl, h⟩ := h
      refine KR.go 11 [(4, .bool (a1 == 6))] 22 (s' := (.code (sub B [1, 0, 1, 1, 0, 1, 0, 1]) :: S2)) fun J => ?_
      exact KR.fi h
    · replace h := iteF c3 h
      refine KR.p (one_ta (t := 94) (v := .tuple #[.agg #[.int .i64 0, .int .i64 0], .bool false]) (by kernel_rfl) c3) ?_
      refine KR.go 6 [(1, .int .i64 a1), (9, .iface t8t t8v)] 22 (s' := (.reg (opsAt (sub B [1, 0, 1, 1, 0, 1, 1, 0])) [0, 1, 2] :: S4)) fun J => ?_
      by_cases c5 : t8t = 96
      · replace h := iteT c5 h
        subst c5
        obtain ⟨t15yc0, rfl, h⟩ := h
        refine KR.go 11 [(4, .bool (a1 == 2))] 22 (s' := (.code (sub B [1, 0, 1, 1, 0, 1, 1, 1, 0, 1]) :: S2)) fun J => ?_
        exact KR.fi h
      · replace h := iteF c5 h
        refine KR.p (one_ta (t := 96) (v := .tuple #[.agg #[.int .i64 0], .bool false]) (by kernel_rfl) c5) ?_
        refine KR.go 12 [(4, .bool (decide (a1 ≤ 16)))] 22 (s' := (.code (sub B [1, 1, 1]) :: [])) fun J => ?_
        exact KR.fi h
end F74
/-! #### 75 campanile/ie.take -/
namespace F75
noncomputable def B : Code := bodyOf Try.f75
noncomputable def S0 : List It := (.code (sub B [1]) :: [])
noncomputable def S1 : List It := (.code (sub B [1, 1]) :: [])
noncomputable def S2 : List It := (.code (sub B [1, 1, 1]) :: [])
noncomputable def S4 : List It := (.code (sub B [1, 1, 1, 1]) :: [])
noncomputable def S6 : List It := (.code (sub B [1, 1, 1, 1, 1, 1]) :: [])
noncomputable def S16 : List It := (.code (sub B [1, 1, 1, 1, 1, 1, 1]) :: [])
noncomputable def S3 : List It := (.code (sub B [1, 1, 0, 1]) :: S2)
noncomputable def S5 : List It := (.code (sub B [1, 1, 1, 0, 1]) :: S4)
noncomputable def S7 : List It := (.code (sub B [1, 1, 1, 1, 1, 0, 1]) :: S6)
noncomputable def S8 : List It := (.blk 0 :: S6)
noncomputable def S9 : List It := (.code (sub B [1, 1, 0, 1, 1, 0, 1]) :: S2)
noncomputable def S10 : List It := (.code (sub B [1, 1, 1, 0, 1, 1, 0, 1]) :: S4)
noncomputable def S11 : List It := (.lp (sub B [1, 1, 1, 1, 1, 0, 1, 0, 0]) :: S8)
noncomputable def S12 : List It := (.code (sub B [1, 1, 1, 1, 1, 0, 1, 0, 0, 1, 1]) :: S11)
noncomputable def S13 : List It := (.code (sub B [1, 1, 1, 1, 1, 0, 1, 0, 0, 1, 1, 1]) :: S11)
noncomputable def S14 : List It := (.blk 1 :: S13)
noncomputable def S15 : List It := (.code (sub B [1, 1, 1, 1, 1, 0, 1, 0, 0, 1, 1, 0, 0, 1]) :: S14)
def L0 (t1 : Int) (t6b t6o : Nat) (t12a : Option Addr) (t12n t12k : Nat) (t50a : Option Addr) (t50n t50k : Nat) (t51 t52 : Int) (H : Heap) (r : Value × Heap) : Prop := ∀ J, KR Try.prog good Try.f75 S11 (mat J 67 [(1, .int .i64 t1), (6, .pointer (some ⟨t6b, t6o, none⟩)), (12, .slice t12a t12n t12k), (50, .slice t50a t50n t50k), (51, .int .i64 t51), (52, .int .i64 t52)]) H r
theorem L0_step {t1 : Int} {t6b t6o : Nat} {t12a : Option Addr} {t12n t12k : Nat} {t50a : Option Addr} {t50n t50k : Nat} {t51 t52 : Int} {H : Heap} {r : Value × Heap} (h :
    if t52 < t51 then
    (∃ (t50ab t50ao : Nat), t50a = some ⟨t50ab, t50ao, none⟩ ∧
    ((0 : Int) ≤ t52 ∧ t52 < (t50n : Int) ∧
    (∃ (t55 : Int), ldc H t50ab (t50ao + Int.toNat t52 * 1) = some (.int .u8 t55) ∧
    (∃ (H_1 : Heap), H_1 = H.push (.row [.int .i64 (IntKind.wrap .i64 t55)] true) ∧
    (∃ (t60a : Option Addr) (t60n t60k : Nat) (H_2 : Heap), papp H_1 1 8 t12a t12n t12k (some ⟨H.next, 0, none⟩) 1 (UNK 1) = some ((t60a, t60n, t60k), H_2) ∧
    (L0 t1 t6b t6o t60a t60n t60k ((some ⟨t50ab, t50ao, none⟩)) t50n t50k t51 ((IntKind.wrap .i64 (t52 + 1))) H_2 r))))))
    else
    (∃ (t66c0 t66c1 t66c2 t66c3 : Int) (t66c4a : Option Addr) (t66c4n t66c4k : Nat) (H_3 : Heap), xC Try.prog good 38 [.int .i64 t1, .iface 98 (.agg #[.slice t12a t12n t12k])] H = some (.agg #[.int .i64 t66c0, .int .i64 t66c1, .int .i64 t66c2, .int .i64 t66c3, .slice t66c4a t66c4n t66c4k], H_3) ∧
    (∃ (H_4 : Heap), stc H_3 t6b t6o [.int .i64 t66c0, .int .i64 t66c1, .int .i64 t66c2, .int .i64 t66c3, .slice t66c4a t66c4n t66c4k] = some H_4 ∧
    (∃ (r6c0 r6c1 r6c2 r6c3 : Int) (r6c4a : Option Addr) (r6c4n r6c4k : Nat), ldAll H_4 t6b t6o [.int .i64 r6c0, .int .i64 r6c1, .int .i64 r6c2, .int .i64 r6c3, .slice r6c4a r6c4n r6c4k] ∧
    (r = (.agg #[.int .i64 r6c0, .int .i64 r6c1, .int .i64 r6c2, .int .i64 r6c3, .slice r6c4a r6c4n r6c4k], H_4)))))) :
    L0 t1 t6b t6o t12a t12n t12k t50a t50n t50k t51 t52 H r := by
  intro J
  show KR _ _ _ (.lp (sub B [1, 1, 1, 1, 1, 0, 1, 0, 0]) :: S8) _ _ _
  refine KR.go 6 [(1, .int .i64 t1), (6, .pointer (some ⟨t6b, t6o, none⟩)), (12, .slice t12a t12n t12k), (50, .slice t50a t50n t50k), (51, .int .i64 t51), (52, .int .i64 t52), (53, .bool (decide (t52 < t51)))] 67 (s' := (.code (sub B [1, 1, 1, 1, 1, 0, 1, 0, 0, 1, 0]) :: S12)) fun J => ?_
  by_cases c30 : t52 < t51
  · replace h := iteT c30 h
    refine KR.bb true (vB (dT c30)) ?_
    obtain ⟨t50ab, t50ao, rfl, h⟩ := h
    refine KR.go 5 [(1, .int .i64 t1), (6, .pointer (some ⟨t6b, t6o, none⟩)), (12, .slice t12a t12n t12k), (50, .slice (some ⟨t50ab, t50ao, none⟩) t50n t50k), (51, .int .i64 t51), (52, .int .i64 t52)] 67 (s' := (.reg (opsAt (sub B [1, 1, 1, 1, 1, 0, 1, 0, 0, 1, 1, 0, 0, 0])) [0, 1, 2] :: S15)) fun J => ?_
    obtain ⟨q31, q31x, h⟩ := h
    refine KR.p (one_ix 1 t50ab t50ao (by kernel_rfl) q31 q31x) ?_
    obtain ⟨t55, q32, h⟩ := h
    refine KR.rd (one_ld (by kernel_rfl) q32) ?_
    refine KR.go 6 [(1, .int .i64 t1), (6, .pointer (some ⟨t6b, t6o, none⟩)), (50, .slice (some ⟨t50ab, t50ao, none⟩) t50n t50k), (51, .int .i64 t51), (52, .int .i64 t52), (56, .slice t12a t12n t12k), (58, .int .i64 (IntKind.wrap .i64 t55))] 67 (s' := (.reg (opsAt (sub B [1, 1, 1, 1, 1, 0, 1, 0, 0, 1, 1, 0, 0, 1])) [3, 4, 5] :: S14)) fun J => ?_
    obtain ⟨H_1, q33, h⟩ := h
    refine KR.mk (w := sRow 1 1 [.int .i64 (IntKind.wrap .i64 t55)]) (one_al (by kernel_rfl)) q33 ?_
    obtain ⟨t60a, t60n, t60k, H_2, q34, h⟩ := h
    refine KR.se (one_ap 1 8 (by kernel_rfl) q34) ?_
    exact KR.go 7 [(1, .int .i64 t1), (6, .pointer (some ⟨t6b, t6o, none⟩)), (12, .slice t60a t60n t60k), (50, .slice (some ⟨t50ab, t50ao, none⟩) t50n t50k), (51, .int .i64 t51), (52, .int .i64 (IntKind.wrap .i64 (t52 + 1)))] 67 (s' := (.lp (sub B [1, 1, 1, 1, 1, 0, 1, 0, 0]) :: S8)) h
  · replace h := iteF c30 h
    refine KR.bb false (vB (dF c30)) ?_
    refine KR.go 7 [(6, .pointer (some ⟨t6b, t6o, none⟩)), (62, .int .i64 t1), (65, .iface 98 (.agg #[.slice t12a t12n t12k]))] 67 (s' := (.reg (opsAt (sub B [1, 1, 1, 1, 1, 1, 0])) [4, 5] :: S16)) fun J => ?_
    obtain ⟨t66c0, t66c1, t66c2, t66c3, t66c4a, t66c4n, t66c4k, H_3, q35, h⟩ := h
    refine KR.se (one_ca (by kernel_rfl) q35) ?_
    obtain ⟨H_4, q36, h⟩ := h
    refine KR.se (one_st (by kernel_rfl) q36) ?_
    refine KR.go 1 [(6, .pointer (some ⟨t6b, t6o, none⟩))] 67 (s' := (.code (sub B [1, 1, 1, 1, 1, 1, 1]) :: [])) fun J => ?_
    obtain ⟨r6c0, r6c1, r6c2, r6c3, r6c4a, r6c4n, r6c4k, q37, h⟩ := h
    exact KR.finR (l := [.cell 6 24]) (vs := [.agg #[.int .i64 r6c0, .int .i64 r6c1, .int .i64 r6c2, .int .i64 r6c3, .slice r6c4a r6c4n r6c4k]]) (by kernel_rfl) (Res.cellA (by kernel_rfl) q37 Res.nil) (by kernel_rfl) h
theorem call {a0 : Option Addr} {a1 a2 : Int} {H : Heap} {r : Value × Heap} (h :
    ∃ (H_1 : Heap), H_1 = H.push (.row [.int .i64 0, .int .i64 0, .int .i64 0, .int .i64 0, .slice none 0 0] true) ∧
    (∃ (t17 : Value) (H_2 : Heap), xC Try.prog good 37 [.agg #[.int .i64 a1, .int .i64 0, .int .i64 0, .int .i64 0, .slice none 0 0]] H_1 = some (t17, H_2) ∧
    ((t17 = .nilIface ∧
    (∃ (H_3 : Heap), H_3 = H_2.push (.row [.int .i64 0, .int .i64 0] true) ∧
    (∃ (H_4 : Heap), stc H_3 H_2.next 0 [.int .i64 0, .int .i64 0] = some H_4 ∧
    (∃ (H_5 : Heap), H_5 = H_4.push (.row [.int .i64 0] true) ∧
    (∃ (H_6 : Heap), stc H_5 H_4.next 0 [.int .i64 0] = some H_6 ∧
    (∃ (t50a : Option Addr) (t50n t50k : Nat) (H_7 : Heap), xC Try.prog good 60 [.pointer a0, .int .i64 a2] H_6 = some (.slice t50a t50n t50k, H_7) ∧
    (L0 a1 (H.next) 0 none 0 0 t50a t50n t50k ((t50n : Int)) 0 H_7 r))))))) ∨
    (∃ (t17t : Nat) (t17v : Value), t17 = .iface t17t t17v ∧
    (if t17t = 94 then
    (∃ (t20yc0 t20yc1 : Int), t17v = .agg #[.int .i64 t20yc0, .int .i64 t20yc1] ∧
    (∃ (H_8 : Heap), H_8 = H_2.push (.row [.int .i64 0, .int .i64 0] true) ∧
    (∃ (H_9 : Heap), stc H_8 H_2.next 0 [.int .i64 t20yc0, .int .i64 t20yc1] = some H_9 ∧
    (∃ (t26 : Int) (H_10 : Heap), xC Try.prog good 49 [.pointer a0, .int .i64 40] H_9 = some (.int .u64 t26, H_10) ∧
    (∃ (t29 : Int) (H_11 : Heap), xC Try.prog good 49 [.pointer a0, .int .i64 8] H_10 = some (.int .u64 t29, H_11) ∧
    (∃ (t33c0 t33c1 t33c2 t33c3 : Int) (t33c4a : Option Addr) (t33c4n t33c4k : Nat) (H_12 : Heap), xC Try.prog good 38 [.int .i64 a1, .iface 94 (.agg #[.int .i64 (IntKind.wrap .i64 t26), .int .i64 (IntKind.wrap .i64 t29)])] H_11 = some (.agg #[.int .i64 t33c0, .int .i64 t33c1, .int .i64 t33c2, .int .i64 t33c3, .slice t33c4a t33c4n t33c4k], H_12) ∧
    (∃ (H_13 : Heap), stc H_12 H.next 0 [.int .i64 t33c0, .int .i64 t33c1, .int .i64 t33c2, .int .i64 t33c3, .slice t33c4a t33c4n t33c4k] = some H_13 ∧
    (∃ (r6c0 r6c1 r6c2 r6c3 : Int) (r6c4a : Option Addr) (r6c4n r6c4k : Nat), ldAll H_13 H.next 0 [.int .i64 r6c0, .int .i64 r6c1, .int .i64 r6c2, .int .i64 r6c3, .slice r6c4a r6c4n r6c4k] ∧
    (r = (.agg #[.int .i64 r6c0, .int .i64 r6c1, .int .i64 r6c2, .int .i64 r6c3, .slice r6c4a r6c4n r6c4k], H_13))))))))))
    else
    (∃ (H_14 : Heap), H_14 = H_2.push (.row [.int .i64 0, .int .i64 0] true) ∧
    (∃ (H_15 : Heap), stc H_14 H_2.next 0 [.int .i64 0, .int .i64 0] = some H_15 ∧
    (if t17t = 96 then
    (∃ (t36yc0 : Int), t17v = .agg #[.int .i64 t36yc0] ∧
    (∃ (H_16 : Heap), H_16 = H_15.push (.row [.int .i64 0] true) ∧
    (∃ (H_17 : Heap), stc H_16 H_15.next 0 [.int .i64 t36yc0] = some H_17 ∧
    (∃ (t42 : Int) (H_18 : Heap), xC Try.prog good 49 [.pointer a0, .int .i64 16] H_17 = some (.int .u64 t42, H_18) ∧
    (∃ (t47c0 t47c1 t47c2 t47c3 : Int) (t47c4a : Option Addr) (t47c4n t47c4k : Nat) (H_19 : Heap), xC Try.prog good 38 [.int .i64 a1, .iface 96 (.agg #[.int .i64 (IntKind.wrap .i64 (IntKind.wrap .i16 t42))])] H_18 = some (.agg #[.int .i64 t47c0, .int .i64 t47c1, .int .i64 t47c2, .int .i64 t47c3, .slice t47c4a t47c4n t47c4k], H_19) ∧
    (∃ (H_20 : Heap), stc H_19 H.next 0 [.int .i64 t47c0, .int .i64 t47c1, .int .i64 t47c2, .int .i64 t47c3, .slice t47c4a t47c4n t47c4k] = some H_20 ∧
    (∃ (r6c0_1 r6c1_1 r6c2_1 r6c3_1 : Int) (r6c4a_1 : Option Addr) (r6c4n_1 r6c4k_1 : Nat), ldAll H_20 H.next 0 [.int .i64 r6c0_1, .int .i64 r6c1_1, .int .i64 r6c2_1, .int .i64 r6c3_1, .slice r6c4a_1 r6c4n_1 r6c4k_1] ∧
    (r = (.agg #[.int .i64 r6c0_1, .int .i64 r6c1_1, .int .i64 r6c2_1, .int .i64 r6c3_1, .slice r6c4a_1 r6c4n_1 r6c4k_1], H_20)))))))))
    else
    (∃ (H_21 : Heap), H_21 = H_15.push (.row [.int .i64 0] true) ∧
    (∃ (H_22 : Heap), stc H_21 H_15.next 0 [.int .i64 0] = some H_22 ∧
    (∃ (t50a_1 : Option Addr) (t50n_1 t50k_1 : Nat) (H_23 : Heap), xC Try.prog good 60 [.pointer a0, .int .i64 a2] H_22 = some (.slice t50a_1 t50n_1 t50k_1, H_23) ∧
    (L0 a1 (H.next) 0 none 0 0 t50a_1 t50n_1 t50k_1 ((t50n_1 : Int)) 0 H_23 r)))))))))))) :
    xC Try.prog good 75 [.pointer a0, .int .i64 a1, .int .i64 a2] H = some r := by
  refine KR.enter (fn := Try.f75) (c := B) (by kernel_rfl) (by kernel_rfl) ?_
  refine KR.go 2 [(0, .pointer a0), (1, .int .i64 a1), (2, .int .i64 a2)] 67 (s' := (.reg (opsAt (sub B [0])) [0] :: S0)) fun J => ?_
  obtain ⟨H_1, q1, h⟩ := h
  refine KR.mk (w := pRow [.int .i64 0, .int .i64 0, .int .i64 0, .int .i64 0, .slice none 0 0]) (one_al (by kernel_rfl)) q1 ?_
  refine KR.go 5 [(0, .pointer a0), (1, .int .i64 a1), (2, .int .i64 a2), (6, .pointer (some ⟨H.next, 0, none⟩)), (16, .agg #[.int .i64 a1, .int .i64 0, .int .i64 0, .int .i64 0, .slice none 0 0])] 67 (s' := (.reg (opsAt (sub B [1, 0])) [2, 3] :: S1)) fun J => ?_
  obtain ⟨t17, H_2, q2, h⟩ := h
  refine KR.se (one_ca (by kernel_rfl) q2) ?_
  rcases h with ⟨rfl, h⟩ | ⟨t17t, t17v, rfl, h⟩
  · refine KR.go 10 [(0, .pointer a0), (1, .int .i64 a1), (2, .int .i64 a2), (6, .pointer (some ⟨H.next, 0, none⟩)), (7, .nilIface), (21, .agg #[.int .i64 0, .int .i64 0]), (22, .bool false)] 67 (s' := (.reg (opsAt (sub B [1, 1, 0, 0])) [5, 6, 7] :: S3)) fun J => ?_
    obtain ⟨H_3, q3, h⟩ := h
    refine KR.mk (w := pRow [.int .i64 0, .int .i64 0]) (one_al (by kernel_rfl)) q3 ?_
    obtain ⟨H_4, q4, h⟩ := h
    refine KR.se (one_st (by kernel_rfl) q4) ?_
    refine KR.go 16 [(0, .pointer a0), (1, .int .i64 a1), (2, .int .i64 a2), (6, .pointer (some ⟨H.next, 0, none⟩)), (37, .agg #[.int .i64 0]), (38, .bool false)] 67 (s' := (.reg (opsAt (sub B [1, 1, 1, 0, 0])) [5, 6, 7] :: S5)) fun J => ?_
    obtain ⟨H_5, q5, h⟩ := h
    refine KR.mk (w := pRow [.int .i64 0]) (one_al (by kernel_rfl)) q5 ?_
    obtain ⟨H_6, q6, h⟩ := h
    refine KR.se (one_st (by kernel_rfl) q6) ?_
    refine KR.go 17 [(1, .int .i64 a1), (6, .pointer (some ⟨H.next, 0, none⟩)), (12, .slice none 0 0), (48, .pointer a0), (49, .int .i64 a2)] 67 (s' := (.reg (opsAt (sub B [1, 1, 1, 1, 1, 0, 0])) [2, 3, 4] :: S7)) fun J => ?_
    obtain ⟨t50a, t50n, t50k, H_7, q7, h⟩ := h
    refine KR.se (one_ca (by kernel_rfl) q7) ?_
    exact KR.go 5 [(1, .int .i64 a1), (6, .pointer (some ⟨H.next, 0, none⟩)), (12, .slice none 0 0), (50, .slice t50a t50n t50k), (51, .int .i64 (t50n : Int)), (52, .int .i64 0)] 67 (s' := (.lp (sub B [1, 1, 1, 1, 1, 0, 1, 0, 0]) :: S8)) h
  · refine KR.go 6 [(0, .pointer a0), (1, .int .i64 a1), (2, .int .i64 a2), (6, .pointer (some ⟨H.next, 0, none⟩)), (7, .iface t17t t17v), (19, .iface t17t t17v)] 67 (s' := (.reg (opsAt (sub B [1, 1, 0, 0])) [1, 2, 3, 4, 5, 6, 7] :: S3)) fun J => ?_
    by_cases c9 : t17t = 94
    · replace h := iteT c9 h
      subst c9
      obtain ⟨t20yc0, t20yc1, rfl, h⟩ := h
      refine KR.go 4 [(0, .pointer a0), (1, .int .i64 a1), (2, .int .i64 a2), (6, .pointer (some ⟨H.next, 0, none⟩)), (7, .iface 94 (.agg #[.int .i64 t20yc0, .int .i64 t20yc1])), (21, .agg #[.int .i64 t20yc0, .int .i64 t20yc1]), (22, .bool true)] 67 (s' := (.reg (opsAt (sub B [1, 1, 0, 0])) [5, 6, 7] :: S3)) fun J => ?_
      obtain ⟨H_8, q10, h⟩ := h
      refine KR.mk (w := pRow [.int .i64 0, .int .i64 0]) (one_al (by kernel_rfl)) q10 ?_
      obtain ⟨H_9, q11, h⟩ := h
      refine KR.se (one_st (by kernel_rfl) q11) ?_
      refine KR.go 11 [(0, .pointer a0), (6, .pointer (some ⟨H.next, 0, none⟩)), (24, .int .i64 a1), (25, .pointer a0)] 67 (s' := (.reg (opsAt (sub B [1, 1, 0, 1, 1, 0, 0])) [2, 3, 4, 5, 6, 7, 8, 9, 10] :: S9)) fun J => ?_
      obtain ⟨t26, H_10, q12, h⟩ := h
      refine KR.se (one_ca (by kernel_rfl) q12) ?_
      refine KR.go 2 [(6, .pointer (some ⟨H.next, 0, none⟩)), (24, .int .i64 a1), (27, .int .i64 (IntKind.wrap .i64 t26)), (28, .pointer a0)] 67 (s' := (.reg (opsAt (sub B [1, 1, 0, 1, 1, 0, 0])) [5, 6, 7, 8, 9, 10] :: S9)) fun J => ?_
      obtain ⟨t29, H_11, q13, h⟩ := h
      refine KR.se (one_ca (by kernel_rfl) q13) ?_
      refine KR.go 3 [(6, .pointer (some ⟨H.next, 0, none⟩)), (24, .int .i64 a1), (32, .iface 94 (.agg #[.int .i64 (IntKind.wrap .i64 t26), .int .i64 (IntKind.wrap .i64 t29)]))] 67 (s' := (.reg (opsAt (sub B [1, 1, 0, 1, 1, 0, 0])) [9, 10] :: S9)) fun J => ?_
      obtain ⟨t33c0, t33c1, t33c2, t33c3, t33c4a, t33c4n, t33c4k, H_12, q14, h⟩ := h
      refine KR.se (one_ca (by kernel_rfl) q14) ?_
      obtain ⟨H_13, q15, h⟩ := h
      refine KR.se (one_st (by kernel_rfl) q15) ?_
      refine KR.go 1 [(6, .pointer (some ⟨H.next, 0, none⟩))] 67 (s' := (.code (sub B [1, 1, 0, 1, 1, 0, 1]) :: S2)) fun J => ?_
      obtain ⟨r6c0, r6c1, r6c2, r6c3, r6c4a, r6c4n, r6c4k, q16, h⟩ := h
      exact KR.finR (l := [.cell 6 24]) (vs := [.agg #[.int .i64 r6c0, .int .i64 r6c1, .int .i64 r6c2, .int .i64 r6c3, .slice r6c4a r6c4n r6c4k]]) (by kernel_rfl) (Res.cellA (by kernel_rfl) q16 Res.nil) (by kernel_rfl) h
    · replace h := iteF c9 h
      refine KR.p (one_ta (t := 94) (v := .tuple #[.agg #[.int .i64 0, .int .i64 0], .bool false]) (by kernel_rfl) c9) ?_
      refine KR.go 3 [(0, .pointer a0), (1, .int .i64 a1), (2, .int .i64 a2), (6, .pointer (some ⟨H.next, 0, none⟩)), (7, .iface t17t t17v), (21, .agg #[.int .i64 0, .int .i64 0]), (22, .bool false)] 67 (s' := (.reg (opsAt (sub B [1, 1, 0, 0])) [5, 6, 7] :: S3)) fun J => ?_
      obtain ⟨H_14, q17, h⟩ := h
      refine KR.mk (w := pRow [.int .i64 0, .int .i64 0]) (one_al (by kernel_rfl)) q17 ?_
      obtain ⟨H_15, q18, h⟩ := h
      refine KR.se (one_st (by kernel_rfl) q18) ?_
      refine KR.go 12 [(0, .pointer a0), (1, .int .i64 a1), (2, .int .i64 a2), (6, .pointer (some ⟨H.next, 0, none⟩)), (35, .iface t17t t17v)] 67 (s' := (.reg (opsAt (sub B [1, 1, 1, 0, 0])) [1, 2, 3, 4, 5, 6, 7] :: S5)) fun J => ?_
      by_cases c20 : t17t = 96
      · replace h := iteT c20 h
        subst c20
        obtain ⟨t36yc0, rfl, h⟩ := h
        refine KR.go 4 [(0, .pointer a0), (1, .int .i64 a1), (2, .int .i64 a2), (6, .pointer (some ⟨H.next, 0, none⟩)), (37, .agg #[.int .i64 t36yc0]), (38, .bool true)] 67 (s' := (.reg (opsAt (sub B [1, 1, 1, 0, 0])) [5, 6, 7] :: S5)) fun J => ?_
        obtain ⟨H_16, q21, h⟩ := h
        refine KR.mk (w := pRow [.int .i64 0]) (one_al (by kernel_rfl)) q21 ?_
        obtain ⟨H_17, q22, h⟩ := h
        refine KR.se (one_st (by kernel_rfl) q22) ?_
        refine KR.go 11 [(6, .pointer (some ⟨H.next, 0, none⟩)), (40, .int .i64 a1), (41, .pointer a0)] 67 (s' := (.reg (opsAt (sub B [1, 1, 1, 0, 1, 1, 0, 0])) [2, 3, 4, 5, 6, 7, 8] :: S10)) fun J => ?_
        obtain ⟨t42, H_18, q23, h⟩ := h
        refine KR.se (one_ca (by kernel_rfl) q23) ?_
        refine KR.go 4 [(6, .pointer (some ⟨H.next, 0, none⟩)), (40, .int .i64 a1), (46, .iface 96 (.agg #[.int .i64 (IntKind.wrap .i64 (IntKind.wrap .i16 t42))]))] 67 (s' := (.reg (opsAt (sub B [1, 1, 1, 0, 1, 1, 0, 0])) [7, 8] :: S10)) fun J => ?_
        obtain ⟨t47c0, t47c1, t47c2, t47c3, t47c4a, t47c4n, t47c4k, H_19, q24, h⟩ := h
        refine KR.se (one_ca (by kernel_rfl) q24) ?_
        obtain ⟨H_20, q25, h⟩ := h
        refine KR.se (one_st (by kernel_rfl) q25) ?_
        refine KR.go 1 [(6, .pointer (some ⟨H.next, 0, none⟩))] 67 (s' := (.code (sub B [1, 1, 1, 0, 1, 1, 0, 1]) :: S4)) fun J => ?_
        obtain ⟨r6c0_1, r6c1_1, r6c2_1, r6c3_1, r6c4a_1, r6c4n_1, r6c4k_1, q26, h⟩ := h
        exact KR.finR (l := [.cell 6 24]) (vs := [.agg #[.int .i64 r6c0_1, .int .i64 r6c1_1, .int .i64 r6c2_1, .int .i64 r6c3_1, .slice r6c4a_1 r6c4n_1 r6c4k_1]]) (by kernel_rfl) (Res.cellA (by kernel_rfl) q26 Res.nil) (by kernel_rfl) h
      · replace h := iteF c20 h
        refine KR.p (one_ta (t := 96) (v := .tuple #[.agg #[.int .i64 0], .bool false]) (by kernel_rfl) c20) ?_
        refine KR.go 3 [(0, .pointer a0), (1, .int .i64 a1), (2, .int .i64 a2), (6, .pointer (some ⟨H.next, 0, none⟩)), (37, .agg #[.int .i64 0]), (38, .bool false)] 67 (s' := (.reg (opsAt (sub B [1, 1, 1, 0, 0])) [5, 6, 7] :: S5)) fun J => ?_
        obtain ⟨H_21, q27, h⟩ := h
        refine KR.mk (w := pRow [.int .i64 0]) (one_al (by kernel_rfl)) q27 ?_
        obtain ⟨H_22, q28, h⟩ := h
        refine KR.se (one_st (by kernel_rfl) q28) ?_
        refine KR.go 17 [(1, .int .i64 a1), (6, .pointer (some ⟨H.next, 0, none⟩)), (12, .slice none 0 0), (48, .pointer a0), (49, .int .i64 a2)] 67 (s' := (.reg (opsAt (sub B [1, 1, 1, 1, 1, 0, 0])) [2, 3, 4] :: S7)) fun J => ?_
        obtain ⟨t50a_1, t50n_1, t50k_1, H_23, q29, h⟩ := h
        refine KR.se (one_ca (by kernel_rfl) q29) ?_
        exact KR.go 5 [(1, .int .i64 a1), (6, .pointer (some ⟨H.next, 0, none⟩)), (12, .slice none 0 0), (50, .slice t50a_1 t50n_1 t50k_1), (51, .int .i64 (t50n_1 : Int)), (52, .int .i64 0)] 67 (s' := (.lp (sub B [1, 1, 1, 1, 1, 0, 1, 0, 0]) :: S8)) h
end F75
end Go.X
