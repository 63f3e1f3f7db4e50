/- The walks of the functions: printed. -/
import Derived.Test.YtbfjajoekcbodaaXzGe
set_option linter.unusedVariables false
set_option maxRecDepth 100000
namespace Go.X
open Go Go.RowKit Go.Proofs
/-! #### 4 campanile/campanilelaw6.IeForms -/
namespace F4
noncomputable def B : Code := bodyOf Try.f4
noncomputable def S0 : List It := (.code (sub B [1, 1]) :: [])
noncomputable def S3 : List It := (.code (sub B [1, 1, 1]) :: [])
noncomputable def S11 : List It := (.code (sub B [1, 1, 1, 1]) :: [])
noncomputable def S12 : List It := (.code (sub B [1, 1, 1, 1, 1]) :: [])
noncomputable def S13 : List It := (.code (sub B [1, 1, 1, 1, 1, 1]) :: [])
noncomputable def S14 : List It := (.code (sub B [1, 1, 1, 1, 1, 1, 1]) :: [])
noncomputable def S15 : List It := (.code (sub B [1, 1, 1, 1, 1, 1, 1, 1]) :: [])
noncomputable def S1 : List It := (.code (sub B [1, 0, 1]) :: S0)
noncomputable def S2 : List It := (.code (sub B [1, 0, 1, 0, 1]) :: S0)
noncomputable def S4 : List It := (.blk 0 :: S3)
noncomputable def S5 : List It := (.lp (sub B [1, 1, 0, 1, 0, 0]) :: S4)
noncomputable def S6 : List It := (.code (sub B [1, 1, 0, 1, 0, 0, 1, 1]) :: S5)
noncomputable def S7 : List It := (.code (sub B [1, 1, 0, 1, 0, 0, 1, 1, 1]) :: S5)
noncomputable def S8 : List It := (.blk 1 :: S7)
noncomputable def S9 : List It := (.code (sub B [1, 1, 0, 1, 0, 0, 1, 1, 0, 0, 1]) :: S8)
noncomputable def S10 : List It := (.code (sub B [1, 1, 0, 1, 0, 0, 1, 1, 0, 0, 1, 1]) :: S8)
def L0 (t0a : Option Addr) (t0n : Nat) (t0k : Nat) (t1 : Int) (t19a : Option Addr) (t19n : Nat) (t19k : Nat) (t20 : Int) (t21 : Int) (H : Heap) (r : Value × Heap) : Prop := ∀ J, KR Try.prog good Try.f4 S5 (mat J 99 [(0, .slice t0a t0n t0k), (1, .int .i64 t1), (19, .slice t19a t19n t19k), (20, .int .i64 t20), (21, .int .i64 t21)]) H r
def L1 (t0a : Option Addr) (t0n : Nat) (t0k : Nat) (t1 : Int) (t19b : Nat) (t19o : Nat) (t19n : Nat) (t19k : Nat) (t20 : Int) (t21 : Int) (t52 : Bool) (H : Heap) (r : Value × Heap) : Prop := ∀ J, KR Try.prog good Try.f4 S10 (mat J 99 [(0, .slice t0a t0n t0k), (1, .int .i64 t1), (19, .slice (some ⟨t19b, t19o, none⟩) t19n t19k), (20, .int .i64 t20), (21, .int .i64 t21), (52, .bool t52)]) H r
theorem L0_step {t0a : Option Addr} {t0n : Nat} {t0k : Nat} {t1 : Int} {t19a : Option Addr} {t19n : Nat} {t19k : Nat} {t20 : Int} {t21 : Int} {H : Heap} {r : Value × Heap} (h :
    if t21 < t20 then
    (∃ (t19ab t19ao : Nat), t19a = some ⟨t19ab, t19ao, none⟩ ∧
    ((0 : Int) ≤ t21 ∧ t21 < ((t19n : Nat) : Int) ∧
    (∃ (t25c0 : Int) (t25c1 : Int) (t25c2 : Int) (t25c3 : Int) (t25c4a : Option Addr) (t25c4n : Nat) (t25c4k : Nat), ldAll H t19ab (t19ao + Int.toNat t21 * 5) [.int .i64 t25c0, .int .i64 t25c1, .int .i64 t25c2, .int .i64 t25c3, .slice t25c4a t25c4n t25c4k] ∧
    (∃ (H_1 : Heap), H_1 = H.push (.row [.int .i64 0, .int .i64 0, .int .i64 0, .int .i64 0, .slice none 0 0] true) ∧
    (∃ (H_2 : Heap), stc H_1 H.next 0 [.int .i64 t25c0, .int .i64 t25c1, .int .i64 t25c2, .int .i64 t25c3, .slice t25c4a t25c4n t25c4k] = some H_2 ∧
    (∃ (t26c0 : Int) (t26c1 : Int) (t26c2 : Int) (t26c3 : Int) (t26c4a : Option Addr) (t26c4n : Nat) (t26c4k : Nat), ldAll H_2 H.next 0 [.int .i64 t26c0, .int .i64 t26c1, .int .i64 t26c2, .int .i64 t26c3, .slice t26c4a t26c4n t26c4k] ∧
    (∃ (t27 : Bool) (H_3 : Heap), xC Try.prog good 14 [.agg #[.int .i64 t26c0, .int .i64 t26c1, .int .i64 t26c2, .int .i64 t26c3, .slice t26c4a t26c4n t26c4k]] H_2 = some (.bool t27, H_3) ∧
    (∃ (t28c0 : Int) (t28c1 : Int) (t28c2 : Int) (t28c3 : Int) (t28c4a : Option Addr) (t28c4n : Nat) (t28c4k : Nat), ldAll H_2 H.next 0 [.int .i64 t28c0, .int .i64 t28c1, .int .i64 t28c2, .int .i64 t28c3, .slice t28c4a t28c4n t28c4k] ∧
    (∃ (t29 : Bool) (H_4 : Heap), xC Try.prog good 18 [.agg #[.int .i64 t28c0, .int .i64 t28c1, .int .i64 t28c2, .int .i64 t28c3, .slice t28c4a t28c4n t28c4k]] H_3 = some (.bool t29, H_4) ∧
    (if (t27 == t29) = true then
    (∃ (t32c0 : Int) (t32c1 : Int) (t32c2 : Int) (t32c3 : Int) (t32c4a : Option Addr) (t32c4n : Nat) (t32c4k : Nat), ldAll H_4 H.next 0 [.int .i64 t32c0, .int .i64 t32c1, .int .i64 t32c2, .int .i64 t32c3, .slice t32c4a t32c4n t32c4k] ∧
    (∃ (t0ab t0ao : Nat), t0a = some ⟨t0ab, t0ao, none⟩ ∧
    ((0 : Int) ≤ 0 ∧ 0 < ((t0n : Nat) : Int) ∧
    (∃ (t35c0 : Int) (t35c1 : Int) (t35c2 : Int) (t35c3 : Int) (t35c4a : Option Addr) (t35c4n : Nat) (t35c4k : Nat), ldAll H_4 t0ab t0ao [.int .i64 t35c0, .int .i64 t35c1, .int .i64 t35c2, .int .i64 t35c3, .slice t35c4a t35c4n t35c4k] ∧
    (∃ (t36 : Bool) (H_5 : Heap), xC Try.prog good 17 [.agg #[.int .i64 t32c0, .int .i64 t32c1, .int .i64 t32c2, .int .i64 t32c3, .slice t32c4a t32c4n t32c4k], .agg #[.int .i64 t35c0, .int .i64 t35c1, .int .i64 t35c2, .int .i64 t35c3, .slice t35c4a t35c4n t35c4k]] H_4 = some (.bool t36, H_5) ∧
    (∃ (t37c0 : Int) (t37c1 : Int) (t37c2 : Int) (t37c3 : Int) (t37c4a : Option Addr) (t37c4n : Nat) (t37c4k : Nat), ldAll H_4 H.next 0 [.int .i64 t37c0, .int .i64 t37c1, .int .i64 t37c2, .int .i64 t37c3, .slice t37c4a t37c4n t37c4k] ∧
    ((0 : Int) ≤ 0 ∧ 0 < ((t0n : Nat) : Int) ∧
    (∃ (t40c0 : Int) (t40c1 : Int) (t40c2 : Int) (t40c3 : Int) (t40c4a : Option Addr) (t40c4n : Nat) (t40c4k : Nat), ldAll H_4 t0ab t0ao [.int .i64 t40c0, .int .i64 t40c1, .int .i64 t40c2, .int .i64 t40c3, .slice t40c4a t40c4n t40c4k] ∧
    (∃ (t41 : Bool) (H_6 : Heap), xC Try.prog good 19 [.agg #[.int .i64 t37c0, .int .i64 t37c1, .int .i64 t37c2, .int .i64 t37c3, .slice t37c4a t37c4n t37c4k], .agg #[.int .i64 t40c0, .int .i64 t40c1, .int .i64 t40c2, .int .i64 t40c3, .slice t40c4a t40c4n t40c4k]] H_5 = some (.bool t41, H_6) ∧
    (if (t36 == t41) = true then
    ((0 : Int) ≤ t21 ∧ t21 < ((t0n : Nat) : Int) ∧
    (∃ (t48c0 : Int) (t48c1 : Int) (t48c2 : Int) (t48c3 : Int) (t48c4a : Option Addr) (t48c4n : Nat) (t48c4k : Nat), ldAll H_6 t0ab (t0ao + Int.toNat t21 * 5) [.int .i64 t48c0, .int .i64 t48c1, .int .i64 t48c2, .int .i64 t48c3, .slice t48c4a t48c4n t48c4k] ∧
    (∃ (t49c0 : Int) (t49c1 : Int) (t49c2 : Int) (t49c3 : Int) (t49c4a : Option Addr) (t49c4n : Nat) (t49c4k : Nat), ldAll H_6 H.next 0 [.int .i64 t49c0, .int .i64 t49c1, .int .i64 t49c2, .int .i64 t49c3, .slice t49c4a t49c4n t49c4k] ∧
    (∃ (t50 : Bool) (H_7 : Heap), xC Try.prog good 17 [.agg #[.int .i64 t48c0, .int .i64 t48c1, .int .i64 t48c2, .int .i64 t48c3, .slice t48c4a t48c4n t48c4k], .agg #[.int .i64 t49c0, .int .i64 t49c1, .int .i64 t49c2, .int .i64 t49c3, .slice t49c4a t49c4n t49c4k]] H_6 = some (.bool t50, H_7) ∧
    (ldAll H_3 H.next 0 [.int .i64 t28c0, .int .i64 t28c1, .int .i64 t28c2, .int .i64 t28c3, .slice t28c4a t28c4n t28c4k] ∧
    ldAll H_5 H.next 0 [.int .i64 t37c0, .int .i64 t37c1, .int .i64 t37c2, .int .i64 t37c3, .slice t37c4a t37c4n t37c4k] ∧
    ldAll H_5 t0ab t0ao [.int .i64 t40c0, .int .i64 t40c1, .int .i64 t40c2, .int .i64 t40c3, .slice t40c4a t40c4n t40c4k] ∧
    (L1 ((some ⟨t0ab, t0ao, none⟩)) (t0n) (t0k) (t1) (t19ab) (t19ao) (t19n) (t19k) (t20) (t21) ((!t50)) H_7 r))))))
    else
    (ldAll H_3 H.next 0 [.int .i64 t28c0, .int .i64 t28c1, .int .i64 t28c2, .int .i64 t28c3, .slice t28c4a t28c4n t28c4k] ∧
    ldAll H_5 H.next 0 [.int .i64 t37c0, .int .i64 t37c1, .int .i64 t37c2, .int .i64 t37c3, .slice t37c4a t37c4n t37c4k] ∧
    ldAll H_5 t0ab t0ao [.int .i64 t40c0, .int .i64 t40c1, .int .i64 t40c2, .int .i64 t40c3, .slice t40c4a t40c4n t40c4k] ∧
    (L1 ((some ⟨t0ab, t0ao, none⟩)) (t0n) (t0k) (t1) (t19ab) (t19ao) (t19n) (t19k) (t20) (t21) (true) H_6 r))))))))))))
    else
    (ldAll H_3 H.next 0 [.int .i64 t28c0, .int .i64 t28c1, .int .i64 t28c2, .int .i64 t28c3, .slice t28c4a t28c4n t28c4k] ∧
    (L1 (t0a) (t0n) (t0k) (t1) (t19ab) (t19ao) (t19n) (t19k) (t20) (t21) (true) H_4 r))))))))))))
    else
    (∃ (t56r0a : Option Addr) (t56r0n : Nat) (t56r0k : Nat) (t56r1 : Int) (H_8 : Heap), xC Try.prog good 16 [.slice t0a t0n t0k] H = some (.tuple #[.slice t56r0a t56r0n t56r0k, .int .i64 t56r1], H_8) ∧
    (∃ (t61r0a : Option Addr) (t61r0n : Nat) (t61r0k : Nat) (t61r1 : Int) (H_9 : Heap), xC Try.prog good 20 [.slice t0a t0n t0k] H_8 = some (.tuple #[.slice t61r0a t61r0n t61r0k, .int .i64 t61r1], H_9) ∧
    (∃ (t67r0c0 : Int) (t67r0c1 : Int) (t67r0c2 : Int) (t67r0c3 : Int) (t67r0c4a : Option Addr) (t67r0c4n : Nat) (t67r0c4k : Nat) (t67r1 : Bool) (H_10 : Heap), xC Try.prog good 21 [.slice t0a t0n t0k, .int .i64 t1] H_9 = some (.tuple #[.agg #[.int .i64 t67r0c0, .int .i64 t67r0c1, .int .i64 t67r0c2, .int .i64 t67r0c3, .slice t67r0c4a t67r0c4n t67r0c4k], .bool t67r1], H_10) ∧
    (∃ (H_11 : Heap), H_11 = H_10.push (.row [.int .i64 0, .int .i64 0, .int .i64 0, .int .i64 0, .slice none 0 0] true) ∧
    (∃ (H_12 : Heap), stc H_11 H_10.next 0 [.int .i64 t67r0c0, .int .i64 t67r0c1, .int .i64 t67r0c2, .int .i64 t67r0c3, .slice t67r0c4a t67r0c4n t67r0c4k] = some H_12 ∧
    (∃ (t73r0c0 : Int) (t73r0c1 : Int) (t73r0c2 : Int) (t73r0c3 : Int) (t73r0c4a : Option Addr) (t73r0c4n : Nat) (t73r0c4k : Nat) (t73r1 : Bool) (H_13 : Heap), xC Try.prog good 22 [.slice t0a t0n t0k, .int .i64 t1] H_12 = some (.tuple #[.agg #[.int .i64 t73r0c0, .int .i64 t73r0c1, .int .i64 t73r0c2, .int .i64 t73r0c3, .slice t73r0c4a t73r0c4n t73r0c4k], .bool t73r1], H_13) ∧
    (∃ (H_14 : Heap), H_14 = H_13.push (.row [.int .i64 0, .int .i64 0, .int .i64 0, .int .i64 0, .slice none 0 0] true) ∧
    (∃ (H_15 : Heap), stc H_14 H_13.next 0 [.int .i64 t73r0c0, .int .i64 t73r0c1, .int .i64 t73r0c2, .int .i64 t73r0c3, .slice t73r0c4a t73r0c4n t73r0c4k] = some H_15 ∧
    (∃ (t77 : ByteArray), pstrb H_15 t56r0a t56r0n = some t77 ∧
    (∃ (t79 : ByteArray), pstrb H_15 t61r0a t61r0n = some t79 ∧
    (if t77.toList = t79.toList then
    (if t56r1 = t61r1 then
    (∃ (t87c0 : Int) (t87c1 : Int) (t87c2 : Int) (t87c3 : Int) (t87c4a : Option Addr) (t87c4n : Nat) (t87c4k : Nat), ldAll H_15 H_10.next 0 [.int .i64 t87c0, .int .i64 t87c1, .int .i64 t87c2, .int .i64 t87c3, .slice t87c4a t87c4n t87c4k] ∧
    (∃ (t88c0 : Int) (t88c1 : Int) (t88c2 : Int) (t88c3 : Int) (t88c4a : Option Addr) (t88c4n : Nat) (t88c4k : Nat), ldAll H_15 H_13.next 0 [.int .i64 t88c0, .int .i64 t88c1, .int .i64 t88c2, .int .i64 t88c3, .slice t88c4a t88c4n t88c4k] ∧
    (∃ (t89 : Bool) (H_16 : Heap), xC Try.prog good 19 [.agg #[.int .i64 t87c0, .int .i64 t87c1, .int .i64 t87c2, .int .i64 t87c3, .slice t87c4a t87c4n t87c4k], .agg #[.int .i64 t88c0, .int .i64 t88c1, .int .i64 t88c2, .int .i64 t88c3, .slice t88c4a t88c4n t88c4k]] H_15 = some (.bool t89, H_16) ∧
    (if t89 = true then
    (if (t67r1 == t73r1) = true then
    (∃ (t97 : Bool) (H_17 : Heap), xC Try.prog good 15 [] H_16 = some (.bool t97, H_17) ∧
    (r = (.bool t97, H_17)))
    else
    (r = (.bool false, H_16)))
    else
    (r = (.bool false, H_16))))))
    else
    (r = (.bool false, H_15)))
    else
    (r = (.bool false, H_15)))))))))))))) :
    L0 t0a t0n t0k t1 t19a t19n t19k t20 t21 H r := by
  intro J
  show KR _ _ _ (.lp (sub B [1, 1, 0, 1, 0, 0]) :: S4) _ _ _
  refine KR.run 6 [(0, .slice t0a t0n t0k), (1, .int .i64 t1), (19, .slice t19a t19n t19k), (20, .int .i64 t20), (21, .int .i64 t21), (22, .bool (decide (t21 < t20)))] 99 (s' := (.code (sub B [1, 1, 0, 1, 0, 0, 1, 0]) :: S6)) (by kernel_rfl) fun J => ?_
  by_cases c4 : t21 < t20
  · replace h := iteT c4 h
    refine KR.br true (by kernel_rfl) (vB (dT c4)) ?_
    obtain ⟨t19ab, t19ao, rfl, h⟩ := h
    refine KR.run 6 [(0, .slice t0a t0n t0k), (1, .int .i64 t1), (19, .slice (some ⟨t19ab, t19ao, none⟩) t19n t19k), (20, .int .i64 t20), (21, .int .i64 t21), (23, .int .i64 t21)] 99 (s' := (.reg (opsAt (sub B [1, 1, 0, 1, 0, 0, 1, 1, 0, 0, 0])) [1, 2, 3, 4, 5] :: S9)) (by kernel_rfl) fun J => ?_
    obtain ⟨q5, q5x, h⟩ := h
    refine KR.p (one_ix 5 t19ab t19ao (by kernel_rfl) q5 q5x) ?_
    obtain ⟨t25c0, t25c1, t25c2, t25c3, t25c4a, t25c4n, t25c4k, q6, h⟩ := h
    refine KR.rd (one_ldA (by kernel_rfl) q6) ?_
    obtain ⟨H_1, q7, h⟩ := h
    refine KR.mk (w := pRow [.int .i64 0, .int .i64 0, .int .i64 0, .int .i64 0, .slice none 0 0]) (one_al (by kernel_rfl)) q7 ?_
    refine KR.run 1 [(0, .slice t0a t0n t0k), (1, .int .i64 t1), (5, .int .i64 t21), (6, .pointer (some ⟨H.next, 0, none⟩)), (19, .slice (some ⟨t19ab, t19ao, none⟩) t19n t19k), (20, .int .i64 t20), (21, .int .i64 t21), (25, .agg #[.int .i64 t25c0, .int .i64 t25c1, .int .i64 t25c2, .int .i64 t25c3, .slice t25c4a t25c4n t25c4k])] 99 (s' := (.reg (opsAt (sub B [1, 1, 0, 1, 0, 0, 1, 1, 0, 0, 0])) [5] :: S9)) (by kernel_rfl) fun J => ?_
    obtain ⟨H_2, q8, h⟩ := h
    refine KR.se (one_st (by kernel_rfl) q8) ?_
    refine KR.run 2 [(0, .slice t0a t0n t0k), (1, .int .i64 t1), (5, .int .i64 t21), (6, .pointer (some ⟨H.next, 0, none⟩)), (19, .slice (some ⟨t19ab, t19ao, none⟩) t19n t19k), (20, .int .i64 t20), (21, .int .i64 t21)] 99 (s' := (.code (sub B [1, 1, 0, 1, 0, 0, 1, 1, 0, 0, 1, 0]) :: S10)) (by kernel_rfl) fun J => ?_
    refine KE.start H_2 (by kernel_rfl) (by kernel_rfl) ?_
    obtain ⟨t26c0, t26c1, t26c2, t26c3, t26c4a, t26c4n, t26c4k, q9, h⟩ := h
    refine KE.rdN (one_ldA (by kernel_rfl) q9) (by kernel_rfl) ?_
    obtain ⟨t27, H_3, q10, h⟩ := h
    refine KE.se (one_ca (by kernel_rfl) q10) (by kernel_rfl) ?_
    obtain ⟨t28c0, t28c1, t28c2, t28c3, t28c4a, t28c4n, t28c4k, q11, h⟩ := h
    refine KE.rdF (one_ldA (by kernel_rfl) q11) (by kernel_rfl) ?_
    obtain ⟨t29, H_4, q12, h⟩ := h
    refine KE.se (one_ca (by kernel_rfl) q12) (by kernel_rfl) ?_
    refine KE.run 2 [(0, .slice t0a t0n t0k), (1, .int .i64 t1), (5, .int .i64 t21), (6, .pointer (some ⟨H.next, 0, none⟩)), (19, .slice (some ⟨t19ab, t19ao, none⟩) t19n t19k), (20, .int .i64 t20), (21, .int .i64 t21), (31, .bool (!(t27 == t29)))] 99 6 (by kernel_rfl) fun J => ?_
    by_cases c13 : (t27 == t29) = true
    · replace h := iteT c13 h
      refine KE.setV 31 (by kernel_rfl) (nB (bT c13)) ?_
      obtain ⟨t32c0, t32c1, t32c2, t32c3, t32c4a, t32c4n, t32c4k, q14, h⟩ := h
      refine KE.rdN (one_ldA (by kernel_rfl) q14) (by kernel_rfl) ?_
      obtain ⟨t0ab, t0ao, rfl, h⟩ := h
      refine KE.run 1 [(0, .slice (some ⟨t0ab, t0ao, none⟩) t0n t0k), (1, .int .i64 t1), (5, .int .i64 t21), (6, .pointer (some ⟨H.next, 0, none⟩)), (19, .slice (some ⟨t19ab, t19ao, none⟩) t19n t19k), (20, .int .i64 t20), (21, .int .i64 t21), (31, .bool false), (32, .agg #[.int .i64 t32c0, .int .i64 t32c1, .int .i64 t32c2, .int .i64 t32c3, .slice t32c4a t32c4n t32c4k]), (33, .slice (some ⟨t0ab, t0ao, none⟩) t0n t0k)] 99 8 (by kernel_rfl) fun J => ?_
      obtain ⟨q15, q15x, h⟩ := h
      refine KE.p (one_ix 5 t0ab t0ao (by kernel_rfl) q15 q15x) ?_
      obtain ⟨t35c0, t35c1, t35c2, t35c3, t35c4a, t35c4n, t35c4k, q16, h⟩ := h
      refine KE.rdN (one_ldA (by kernel_rfl) q16) (by kernel_rfl) ?_
      obtain ⟨t36, H_5, q17, h⟩ := h
      refine KE.se (one_ca (by kernel_rfl) q17) (by kernel_rfl) ?_
      obtain ⟨t37c0, t37c1, t37c2, t37c3, t37c4a, t37c4n, t37c4k, q18, h⟩ := h
      refine KE.rdF (one_ldA (by kernel_rfl) q18) (by kernel_rfl) ?_
      refine KE.run 1 [(0, .slice (some ⟨t0ab, t0ao, none⟩) t0n t0k), (1, .int .i64 t1), (5, .int .i64 t21), (6, .pointer (some ⟨H.next, 0, none⟩)), (19, .slice (some ⟨t19ab, t19ao, none⟩) t19n t19k), (20, .int .i64 t20), (21, .int .i64 t21), (31, .bool false), (36, .bool t36), (37, .agg #[.int .i64 t37c0, .int .i64 t37c1, .int .i64 t37c2, .int .i64 t37c3, .slice t37c4a t37c4n t37c4k]), (38, .slice (some ⟨t0ab, t0ao, none⟩) t0n t0k)] 99 13 (by kernel_rfl) fun J => ?_
      obtain ⟨q19, q19x, h⟩ := h
      refine KE.p (one_ix 5 t0ab t0ao (by kernel_rfl) q19 q19x) ?_
      obtain ⟨t40c0, t40c1, t40c2, t40c3, t40c4a, t40c4n, t40c4k, q20, h⟩ := h
      refine KE.rdF (one_ldA (by kernel_rfl) q20) (by kernel_rfl) ?_
      obtain ⟨t41, H_6, q21, h⟩ := h
      refine KE.se (one_ca (by kernel_rfl) q21) (by kernel_rfl) ?_
      refine KE.run 3 [(0, .slice (some ⟨t0ab, t0ao, none⟩) t0n t0k), (1, .int .i64 t1), (5, .int .i64 t21), (6, .pointer (some ⟨H.next, 0, none⟩)), (19, .slice (some ⟨t19ab, t19ao, none⟩) t19n t19k), (20, .int .i64 t20), (21, .int .i64 t21), (44, .bool (!(t36 == t41)))] 99 19 (by kernel_rfl) fun J => ?_
      by_cases c22 : (t36 == t41) = true
      · replace h := iteT c22 h
        refine KE.setV 44 (by kernel_rfl) (nB (bT c22)) ?_
        refine KE.run 2 [(0, .slice (some ⟨t0ab, t0ao, none⟩) t0n t0k), (1, .int .i64 t1), (6, .pointer (some ⟨H.next, 0, none⟩)), (19, .slice (some ⟨t19ab, t19ao, none⟩) t19n t19k), (20, .int .i64 t20), (21, .int .i64 t21), (44, .bool false), (45, .slice (some ⟨t0ab, t0ao, none⟩) t0n t0k), (46, .int .i64 t21)] 99 21 (by kernel_rfl) fun J => ?_
        obtain ⟨q23, q23x, h⟩ := h
        refine KE.p (one_ix 5 t0ab t0ao (by kernel_rfl) q23 q23x) ?_
        obtain ⟨t48c0, t48c1, t48c2, t48c3, t48c4a, t48c4n, t48c4k, q24, h⟩ := h
        refine KE.rdN (one_ldA (by kernel_rfl) q24) (by kernel_rfl) ?_
        obtain ⟨t49c0, t49c1, t49c2, t49c3, t49c4a, t49c4n, t49c4k, q25, h⟩ := h
        refine KE.rdN (one_ldA (by kernel_rfl) q25) (by kernel_rfl) ?_
        obtain ⟨t50, H_7, q26, h⟩ := h
        refine KE.se (one_ca (by kernel_rfl) q26) (by kernel_rfl) ?_
        refine KE.run 2 [(0, .slice (some ⟨t0ab, t0ao, none⟩) t0n t0k), (1, .int .i64 t1), (19, .slice (some ⟨t19ab, t19ao, none⟩) t19n t19k), (20, .int .i64 t20), (21, .int .i64 t21), (52, .bool (!t50))] 99 27 (by kernel_rfl) fun J => ?_
        obtain ⟨q27, q28, q29, h⟩ := h
        refine KE.fin (H' := H_7) (by kernel_rfl) (rdsS (rdsS (rdsS (rfl) (rd_ok (Hs := [H_3]) (by kernel_rfl) (by kernel_rfl) ⟨one_ldA (by kernel_rfl) q27, trivial⟩)) (rd_ok (Hs := [H_5]) (by kernel_rfl) (by kernel_rfl) ⟨one_ldA (by kernel_rfl) q28, trivial⟩)) (rd_ok (Hs := [H_5]) (by kernel_rfl) (by kernel_rfl) ⟨one_ldA (by kernel_rfl) q29, trivial⟩)) (by kernel_rfl) ?_
        exact KR.run 0 [(0, .slice (some ⟨t0ab, t0ao, none⟩) t0n t0k), (1, .int .i64 t1), (19, .slice (some ⟨t19ab, t19ao, none⟩) t19n t19k), (20, .int .i64 t20), (21, .int .i64 t21), (52, .bool (!t50))] 99 (s' := (.code (sub B [1, 1, 0, 1, 0, 0, 1, 1, 0, 0, 1, 1]) :: S8)) (by kernel_rfl) h
      · replace h := iteF c22 h
        refine KE.setV 44 (by kernel_rfl) (nB (bF c22)) ?_
        refine KE.run 5 [(0, .slice (some ⟨t0ab, t0ao, none⟩) t0n t0k), (1, .int .i64 t1), (19, .slice (some ⟨t19ab, t19ao, none⟩) t19n t19k), (20, .int .i64 t20), (21, .int .i64 t21), (44, .bool true), (48, undef), (49, undef)] 99 24 (by kernel_rfl) fun J => ?_
        refine KE.no (Gc := H_6) (by kernel_rfl) (by kernel_rfl) (by kernel_rfl) ?_
        refine KE.run 2 [(0, .slice (some ⟨t0ab, t0ao, none⟩) t0n t0k), (1, .int .i64 t1), (19, .slice (some ⟨t19ab, t19ao, none⟩) t19n t19k), (20, .int .i64 t20), (21, .int .i64 t21), (52, .bool true)] 99 27 (by kernel_rfl) fun J => ?_
        obtain ⟨q30, q31, q32, h⟩ := h
        refine KE.fin (H' := H_6) (by kernel_rfl) (rdsS (rdsS (rdsS (rfl) (rd_ok (Hs := [H_3]) (by kernel_rfl) (by kernel_rfl) ⟨one_ldA (by kernel_rfl) q30, trivial⟩)) (rd_ok (Hs := [H_5]) (by kernel_rfl) (by kernel_rfl) ⟨one_ldA (by kernel_rfl) q31, trivial⟩)) (rd_ok (Hs := [H_5]) (by kernel_rfl) (by kernel_rfl) ⟨one_ldA (by kernel_rfl) q32, trivial⟩)) (by kernel_rfl) ?_
        exact KR.run 0 [(0, .slice (some ⟨t0ab, t0ao, none⟩) t0n t0k), (1, .int .i64 t1), (19, .slice (some ⟨t19ab, t19ao, none⟩) t19n t19k), (20, .int .i64 t20), (21, .int .i64 t21), (52, .bool true)] 99 (s' := (.code (sub B [1, 1, 0, 1, 0, 0, 1, 1, 0, 0, 1, 1]) :: S8)) (by kernel_rfl) h
    · replace h := iteF c13 h
      refine KE.setV 31 (by kernel_rfl) (nB (bF c13)) ?_
      refine KE.run 4 [(0, .slice t0a t0n t0k), (1, .int .i64 t1), (5, .int .i64 t21), (6, .pointer (some ⟨H.next, 0, none⟩)), (19, .slice (some ⟨t19ab, t19ao, none⟩) t19n t19k), (20, .int .i64 t20), (21, .int .i64 t21), (31, .bool true), (32, undef), (35, undef)] 99 10 (by kernel_rfl) fun J => ?_
      refine KE.no (Gc := H_4) (by kernel_rfl) (by kernel_rfl) (by kernel_rfl) ?_
      refine KE.run 4 [(0, .slice t0a t0n t0k), (1, .int .i64 t1), (5, .int .i64 t21), (6, .pointer (some ⟨H.next, 0, none⟩)), (19, .slice (some ⟨t19ab, t19ao, none⟩) t19n t19k), (20, .int .i64 t20), (21, .int .i64 t21), (31, .bool true), (36, undef), (37, undef), (40, undef)] 99 15 (by kernel_rfl) fun J => ?_
      refine KE.no (Gc := H_4) (by kernel_rfl) (by kernel_rfl) (by kernel_rfl) ?_
      refine KE.run 8 [(0, .slice t0a t0n t0k), (1, .int .i64 t1), (19, .slice (some ⟨t19ab, t19ao, none⟩) t19n t19k), (20, .int .i64 t20), (21, .int .i64 t21), (44, .bool true), (48, undef), (49, undef)] 99 24 (by kernel_rfl) fun J => ?_
      refine KE.no (Gc := H_4) (by kernel_rfl) (by kernel_rfl) (by kernel_rfl) ?_
      refine KE.run 2 [(0, .slice t0a t0n t0k), (1, .int .i64 t1), (19, .slice (some ⟨t19ab, t19ao, none⟩) t19n t19k), (20, .int .i64 t20), (21, .int .i64 t21), (52, .bool true)] 99 27 (by kernel_rfl) fun J => ?_
      obtain ⟨q33, h⟩ := h
      refine KE.fin (H' := H_4) (by kernel_rfl) (rdsS (rfl) (rd_ok (Hs := [H_3]) (by kernel_rfl) (by kernel_rfl) ⟨one_ldA (by kernel_rfl) q33, trivial⟩)) (by kernel_rfl) ?_
      exact KR.run 0 [(0, .slice t0a t0n t0k), (1, .int .i64 t1), (19, .slice (some ⟨t19ab, t19ao, none⟩) t19n t19k), (20, .int .i64 t20), (21, .int .i64 t21), (52, .bool true)] 99 (s' := (.code (sub B [1, 1, 0, 1, 0, 0, 1, 1, 0, 0, 1, 1]) :: S8)) (by kernel_rfl) h
  · replace h := iteF c4 h
    refine KR.br false (by kernel_rfl) (vB (dF c4)) ?_
    refine KR.run 4 [(0, .slice t0a t0n t0k), (1, .int .i64 t1), (55, .slice t0a t0n t0k)] 99 (s' := (.reg (opsAt (sub B [1, 1, 1, 0])) [1, 2, 3, 4, 5, 6] :: S11)) (by kernel_rfl) fun J => ?_
    obtain ⟨t56r0a, t56r0n, t56r0k, t56r1, H_8, q34, h⟩ := h
    refine KR.se (one_ca (by kernel_rfl) q34) ?_
    refine KR.run 9 [(0, .slice t0a t0n t0k), (1, .int .i64 t1), (7, .slice t56r0a t56r0n t56r0k), (8, .int .i64 t56r1), (60, .slice t0a t0n t0k)] 99 (s' := (.reg (opsAt (sub B [1, 1, 1, 1, 0])) [1, 2, 3, 4, 5, 6] :: S12)) (by kernel_rfl) fun J => ?_
    obtain ⟨t61r0a, t61r0n, t61r0k, t61r1, H_9, q35, h⟩ := h
    refine KR.se (one_ca (by kernel_rfl) q35) ?_
    refine KR.run 10 [(0, .slice t0a t0n t0k), (1, .int .i64 t1), (7, .slice t56r0a t56r0n t56r0k), (8, .int .i64 t56r1), (9, .slice t61r0a t61r0n t61r0k), (10, .int .i64 t61r1), (65, .slice t0a t0n t0k), (66, .int .i64 t1)] 99 (s' := (.reg (opsAt (sub B [1, 1, 1, 1, 1, 0])) [2, 3, 4, 5, 6, 7, 8] :: S13)) (by kernel_rfl) fun J => ?_
    obtain ⟨t67r0c0, t67r0c1, t67r0c2, t67r0c3, t67r0c4a, t67r0c4n, t67r0c4k, t67r1, H_10, q36, h⟩ := h
    refine KR.se (one_ca (by kernel_rfl) q36) ?_
    refine KR.run 3 [(0, .slice t0a t0n t0k), (1, .int .i64 t1), (7, .slice t56r0a t56r0n t56r0k), (8, .int .i64 t56r1), (9, .slice t61r0a t61r0n t61r0k), (10, .int .i64 t61r1), (68, .agg #[.int .i64 t67r0c0, .int .i64 t67r0c1, .int .i64 t67r0c2, .int .i64 t67r0c3, .slice t67r0c4a t67r0c4n t67r0c4k]), (69, .bool t67r1)] 99 (s' := (.reg (opsAt (sub B [1, 1, 1, 1, 1, 0])) [6, 7, 8] :: S13)) (by kernel_rfl) fun J => ?_
    obtain ⟨H_11, q37, h⟩ := h
    refine KR.mk (w := pRow [.int .i64 0, .int .i64 0, .int .i64 0, .int .i64 0, .slice none 0 0]) (one_al (by kernel_rfl)) q37 ?_
    obtain ⟨H_12, q38, h⟩ := h
    refine KR.se (one_st (by kernel_rfl) q38) ?_
    refine KR.run 6 [(7, .slice t56r0a t56r0n t56r0k), (8, .int .i64 t56r1), (9, .slice t61r0a t61r0n t61r0k), (10, .int .i64 t61r1), (11, .pointer (some ⟨H_10.next, 0, none⟩)), (12, .bool t67r1), (71, .slice t0a t0n t0k), (72, .int .i64 t1)] 99 (s' := (.reg (opsAt (sub B [1, 1, 1, 1, 1, 1, 0])) [2, 3, 4, 5, 6, 7, 8] :: S14)) (by kernel_rfl) fun J => ?_
    obtain ⟨t73r0c0, t73r0c1, t73r0c2, t73r0c3, t73r0c4a, t73r0c4n, t73r0c4k, t73r1, H_13, q39, h⟩ := h
    refine KR.se (one_ca (by kernel_rfl) q39) ?_
    refine KR.run 3 [(7, .slice t56r0a t56r0n t56r0k), (8, .int .i64 t56r1), (9, .slice t61r0a t61r0n t61r0k), (10, .int .i64 t61r1), (11, .pointer (some ⟨H_10.next, 0, none⟩)), (12, .bool t67r1), (74, .agg #[.int .i64 t73r0c0, .int .i64 t73r0c1, .int .i64 t73r0c2, .int .i64 t73r0c3, .slice t73r0c4a t73r0c4n t73r0c4k]), (75, .bool t73r1)] 99 (s' := (.reg (opsAt (sub B [1, 1, 1, 1, 1, 1, 0])) [6, 7, 8] :: S14)) (by kernel_rfl) fun J => ?_
    obtain ⟨H_14, q40, h⟩ := h
    refine KR.mk (w := pRow [.int .i64 0, .int .i64 0, .int .i64 0, .int .i64 0, .slice none 0 0]) (one_al (by kernel_rfl)) q40 ?_
    obtain ⟨H_15, q41, h⟩ := h
    refine KR.se (one_st (by kernel_rfl) q41) ?_
    refine KR.run 5 [(8, .int .i64 t56r1), (9, .slice t61r0a t61r0n t61r0k), (10, .int .i64 t61r1), (11, .pointer (some ⟨H_10.next, 0, none⟩)), (12, .bool t67r1), (13, .pointer (some ⟨H_13.next, 0, none⟩)), (14, .bool t73r1), (76, .slice t56r0a t56r0n t56r0k)] 99 (s' := (.reg (opsAt (sub B [1, 1, 1, 1, 1, 1, 1, 0])) [1, 2, 3, 4, 5, 6, 7, 8, 9, 10, 11, 12, 13, 14, 15, 16, 17, 18, 19, 20, 21, 22, 23] :: S15)) (by kernel_rfl) fun J => ?_
    obtain ⟨t77, q42, h⟩ := h
    refine KR.rd (one_str (by kernel_rfl) q42) ?_
    refine KR.run 1 [(8, .int .i64 t56r1), (10, .int .i64 t61r1), (11, .pointer (some ⟨H_10.next, 0, none⟩)), (12, .bool t67r1), (13, .pointer (some ⟨H_13.next, 0, none⟩)), (14, .bool t73r1), (77, .string t77), (78, .slice t61r0a t61r0n t61r0k)] 99 (s' := (.reg (opsAt (sub B [1, 1, 1, 1, 1, 1, 1, 0])) [3, 4, 5, 6, 7, 8, 9, 10, 11, 12, 13, 14, 15, 16, 17, 18, 19, 20, 21, 22, 23] :: S15)) (by kernel_rfl) fun J => ?_
    obtain ⟨t79, q43, h⟩ := h
    refine KR.rd (one_str (by kernel_rfl) q43) ?_
    refine KR.run 2 [(8, .int .i64 t56r1), (10, .int .i64 t61r1), (11, .pointer (some ⟨H_10.next, 0, none⟩)), (12, .bool t67r1), (13, .pointer (some ⟨H_13.next, 0, none⟩)), (14, .bool t73r1), (81, .bool (t77.toList == t79.toList))] 99 (s' := (.reg (opsAt (sub B [1, 1, 1, 1, 1, 1, 1, 0])) [6, 7, 8, 9, 10, 11, 12, 13, 14, 15, 16, 17, 18, 19, 20, 21, 22, 23] :: S15)) (by kernel_rfl) fun J => ?_
    by_cases c44 : t77.toList = t79.toList
    · replace h := iteT c44 h
      refine KR.setV 81 (by kernel_rfl) (eT c44) ?_
      refine KR.run 5 [(11, .pointer (some ⟨H_10.next, 0, none⟩)), (12, .bool t67r1), (13, .pointer (some ⟨H_13.next, 0, none⟩)), (14, .bool t73r1), (86, .bool (t56r1 == t61r1))] 99 (s' := (.reg (opsAt (sub B [1, 1, 1, 1, 1, 1, 1, 0])) [11, 12, 13, 14, 15, 16, 17, 18, 19, 20, 21, 22, 23] :: S15)) (by kernel_rfl) fun J => ?_
      by_cases c45 : t56r1 = t61r1
      · replace h := iteT c45 h
        refine KR.setV 86 (by kernel_rfl) (eT c45) ?_
        obtain ⟨t87c0, t87c1, t87c2, t87c3, t87c4a, t87c4n, t87c4k, q46, h⟩ := h
        refine KR.rd (one_ldA (by kernel_rfl) q46) ?_
        obtain ⟨t88c0, t88c1, t88c2, t88c3, t88c4a, t88c4n, t88c4k, q47, h⟩ := h
        refine KR.rd (one_ldA (by kernel_rfl) q47) ?_
        obtain ⟨t89, H_16, q48, h⟩ := h
        refine KR.se (one_ca (by kernel_rfl) q48) ?_
        refine KR.run 2 [(12, .bool t67r1), (14, .bool t73r1), (91, .bool t89)] 99 (s' := (.reg (opsAt (sub B [1, 1, 1, 1, 1, 1, 1, 0])) [16, 17, 18, 19, 20, 21, 22, 23] :: S15)) (by kernel_rfl) fun J => ?_
        by_cases c49 : t89 = true
        · replace h := iteT c49 h
          refine KR.setV 91 (by kernel_rfl) (bT c49) ?_
          refine KR.run 5 [(96, .bool (t67r1 == t73r1))] 99 (s' := (.reg (opsAt (sub B [1, 1, 1, 1, 1, 1, 1, 0])) [21, 22, 23] :: S15)) (by kernel_rfl) fun J => ?_
          by_cases c50 : (t67r1 == t73r1) = true
          · replace h := iteT c50 h
            refine KR.setV 96 (by kernel_rfl) (bT c50) ?_
            obtain ⟨t97, H_17, q51, h⟩ := h
            refine KR.se (one_ca (by kernel_rfl) q51) ?_
            refine KR.run 3 [(4, .bool t97)] 99 (s' := (.code (sub B [1, 1, 1, 1, 1, 1, 1, 1]) :: [])) (by kernel_rfl) fun J => ?_
            exact KR.fin (by kernel_rfl) h
          · replace h := iteF c50 h
            refine KR.setV 96 (by kernel_rfl) (bF c50) ?_
            refine KR.run 4 [(4, .bool false)] 99 (s' := (.code (sub B [1, 1, 1, 1, 1, 1, 1, 1]) :: [])) (by kernel_rfl) fun J => ?_
            exact KR.fin (by kernel_rfl) h
        · replace h := iteF c49 h
          refine KR.setV 91 (by kernel_rfl) (bF c49) ?_
          refine KR.run 9 [(4, .bool false)] 99 (s' := (.code (sub B [1, 1, 1, 1, 1, 1, 1, 1]) :: [])) (by kernel_rfl) fun J => ?_
          exact KR.fin (by kernel_rfl) h
      · replace h := iteF c45 h
        refine KR.setV 86 (by kernel_rfl) (eF c45) ?_
        refine KR.run 14 [(4, .bool false)] 99 (s' := (.code (sub B [1, 1, 1, 1, 1, 1, 1, 1]) :: [])) (by kernel_rfl) fun J => ?_
        exact KR.fin (by kernel_rfl) h
    · replace h := iteF c44 h
      refine KR.setV 81 (by kernel_rfl) (eF c44) ?_
      refine KR.run 19 [(4, .bool false)] 99 (s' := (.code (sub B [1, 1, 1, 1, 1, 1, 1, 1]) :: [])) (by kernel_rfl) fun J => ?_
      exact KR.fin (by kernel_rfl) h
theorem L1_step {t0a : Option Addr} {t0n : Nat} {t0k : Nat} {t1 : Int} {t19b : Nat} {t19o : Nat} {t19n : Nat} {t19k : Nat} {t20 : Int} {t21 : Int} {t52 : Bool} {H : Heap} {r : Value × Heap} (h :
    if t52 = true then
    (r = (.bool false, H))
    else
    (L0 (t0a) (t0n) (t0k) (t1) ((some ⟨t19b, t19o, none⟩)) (t19n) (t19k) (t20) ((IntKind.wrap .i64 (t21 + 1))) H r)) :
    L1 t0a t0n t0k t1 t19b t19o t19n t19k t20 t21 t52 H r := by
  intro J
  show KR _ _ _ (.code (sub B [1, 1, 0, 1, 0, 0, 1, 1, 0, 0, 1, 1]) :: S8) _ _ _
  by_cases c52 : t52 = true
  · replace h := iteT c52 h
    refine KR.br true (by kernel_rfl) (vB (bT c52)) ?_
    refine KR.run 4 [(4, .bool false)] 99 (s' := (.code (sub B [1, 1, 0, 1, 0, 0, 1, 1, 0, 0, 1, 1, 0, 1]) :: S8)) (by kernel_rfl) fun J => ?_
    exact KR.fin (by kernel_rfl) h
  · replace h := iteF c52 h
    refine KR.br false (by kernel_rfl) (vB (bF c52)) ?_
    exact KR.run 6 [(0, .slice t0a t0n t0k), (1, .int .i64 t1), (19, .slice (some ⟨t19b, t19o, none⟩) t19n t19k), (20, .int .i64 t20), (21, .int .i64 (IntKind.wrap .i64 (t21 + 1)))] 99 (s' := (.lp (sub B [1, 1, 0, 1, 0, 0]) :: S4)) (by kernel_rfl) h
theorem call {a0a : Option Addr} {a0n : Nat} {a0k : Nat} {a1 : Int} {H : Heap} {r : Value × Heap} (h :
    ∃ (t16 : Int) (H_1 : Heap), xC Try.prog good 13 [.slice a0a a0n a0k] H = some (.int .i64 t16, H_1) ∧
    (if t16 > 0 then
    (∃ (t18 : Bool) (H_2 : Heap), xC Try.prog good 15 [] H_1 = some (.bool t18, H_2) ∧
    (r = (.bool t18, H_2)))
    else
    (L0 (a0a) (a0n) (a0k) (a1) (a0a) (a0n) (a0k) (((a0n : Nat) : Int)) 0 H_1 r))) :
    xC Try.prog good 4 [.slice a0a a0n a0k, .int .i64 a1] H = some r := by
  refine KR.enter (fn := Try.f4) (c := B) (by kernel_rfl) (by kernel_rfl) ?_
  refine KR.run 8 [(0, .slice a0a a0n a0k), (1, .int .i64 a1), (15, .slice a0a a0n a0k)] 99 (s' := (.reg (opsAt (sub B [1, 0, 0])) [1, 2] :: S1)) (by kernel_rfl) fun J => ?_
  obtain ⟨t16, H_1, q1, h⟩ := h
  refine KR.se (one_ca (by kernel_rfl) q1) ?_
  refine KR.run 2 [(0, .slice a0a a0n a0k), (1, .int .i64 a1), (17, .bool (decide (t16 > 0)))] 99 (s' := (.code (sub B [1, 0, 1]) :: S0)) (by kernel_rfl) fun J => ?_
  by_cases c2 : t16 > 0
  · replace h := iteT c2 h
    refine KR.br true (by kernel_rfl) (vB (dT c2)) ?_
    refine KR.run 2 [] 99 (s' := (.reg (opsAt (sub B [1, 0, 1, 0, 0])) [0, 1] :: S2)) (by kernel_rfl) fun J => ?_
    obtain ⟨t18, H_2, q3, h⟩ := h
    refine KR.se (one_ca (by kernel_rfl) q3) ?_
    refine KR.run 2 [(4, .bool t18)] 99 (s' := (.code (sub B [1, 0, 1, 0, 1]) :: S0)) (by kernel_rfl) fun J => ?_
    exact KR.fin (by kernel_rfl) h
  · replace h := iteF c2 h
    refine KR.br false (by kernel_rfl) (vB (dF c2)) ?_
    exact KR.run 10 [(0, .slice a0a a0n a0k), (1, .int .i64 a1), (19, .slice a0a a0n a0k), (20, .int .i64 ((a0n : Nat) : Int)), (21, .int .i64 0)] 99 (s' := (.lp (sub B [1, 1, 0, 1, 0, 0]) :: S4)) (by kernel_rfl) h
end F4
end Go.X
