/- The walks of the functions: printed. -/
import Derived.Test.YtdnokmjobpbhhaaXzGc
set_option linter.unusedVariables false
set_option maxRecDepth 100000
namespace Go.X
open Go Go.RowKit Go.Proofs
/-! #### 3 campanile/campanilelaw3.BitsCuts -/
namespace F3
noncomputable def B : Code := bodyOf Try.f3
noncomputable def S0 : List It := (.code (sub B [1, 1, 1]) :: [])
noncomputable def S1 : List It := (.code (sub B [1, 1, 1, 1]) :: [])
noncomputable def S2 : List It := (.code (sub B [1, 1, 1, 1, 1]) :: [])
noncomputable def S3 : List It := (.code (sub B [1, 1, 1, 1, 1, 1]) :: [])
noncomputable def S4 : List It := (.code (sub B [1, 1, 1, 1, 1, 1, 1]) :: [])
noncomputable def S5 : List It := (.code (sub B [1, 1, 1, 1, 1, 1, 1, 1]) :: [])
noncomputable def S6 : List It := (.code (sub B [1, 1, 1, 1, 1, 1, 1, 1, 1]) :: [])
noncomputable def S7 : List It := (.code (sub B [1, 1, 1, 1, 1, 1, 1, 1, 1, 1]) :: [])
noncomputable def S9 : List It := (.code (sub B [1, 1, 1, 1, 1, 1, 1, 1, 1, 1, 1]) :: [])
noncomputable def S10 : List It := (.code (sub B [1, 1, 1, 1, 1, 1, 1, 1, 1, 1, 1, 1]) :: [])
noncomputable def S11 : List It := (.code (sub B [1, 1, 1, 1, 1, 1, 1, 1, 1, 1, 1, 1, 1]) :: [])
noncomputable def S12 : List It := (.code (sub B [1, 1, 1, 1, 1, 1, 1, 1, 1, 1, 1, 1, 1, 1]) :: [])
noncomputable def S13 : List It := (.code (sub B [1, 1, 1, 1, 1, 1, 1, 1, 1, 1, 1, 1, 1, 1, 1]) :: [])
noncomputable def S15 : List It := (.code (sub B [1, 1, 1, 1, 1, 1, 1, 1, 1, 1, 1, 1, 1, 1, 1, 1]) :: [])
noncomputable def S8 : List It := (.code (sub B [1, 1, 1, 1, 1, 1, 1, 1, 1, 0, 1]) :: S7)
noncomputable def S14 : List It := (.code (sub B [1, 1, 1, 1, 1, 1, 1, 1, 1, 1, 1, 1, 1, 1, 0, 1, 0, 1]) :: S13)
def L0 (t0 : Int) (t1 : Int) (t2 : Int) (t3 : Int) (t9b : Nat) (t9o : Nat) (t79 : Bool) (H : Heap) (r : Value × Heap) : Prop := ∀ J, KR Try.prog good Try.f3 S8 (mat J 122 [(0, .int .u64 t0), (1, .int .i64 t1), (2, .int .i64 t2), (3, .int .i64 t3), (9, .pointer (some ⟨t9b, t9o, none⟩)), (79, .bool t79)]) H r
theorem L0_step {t0 : Int} {t1 : Int} {t2 : Int} {t3 : Int} {t9b : Nat} {t9o : Nat} {t79 : Bool} {H : Heap} {r : Value × Heap} (h :
    if t79 = true then
    (r = (.bool false, H))
    else
    (∃ (t81a : Option Addr) (t81n : Nat) (t81k : Nat) (H_1 : Heap), xC Try.prog good 16 [.pointer (some ⟨t9b, t9o, none⟩)] H = some (.slice t81a t81n t81k, H_1) ∧
    (∃ (t82 : Option Addr) (H_2 : Heap), xC Try.prog good 17 [.slice t81a t81n t81k] H_1 = some (.pointer t82, H_2) ∧
    (∃ (t85 : Int) (H_3 : Heap), xC Try.prog good 18 [.pointer t82, .int .i64 t3] H_2 = some (.int .u64 t85, H_3) ∧
    (∃ (t88 : Int) (H_4 : Heap), xC Try.prog good 18 [.pointer t82, .int .i64 t2] H_3 = some (.int .u64 t88, H_4) ∧
    (∃ (t93 : Int) (H_5 : Heap), xC Try.prog good 18 [.pointer t82, .int .i64 (IntKind.wrap .i64 (t1 - t2))] H_4 = some (.int .u64 t93, H_5) ∧
    (if (IntKind.wrap .i64 (t1 - t2)) = 64 then
    (if t93 = t0 then
    (∃ (t102 : Bool) (H_6 : Heap), xC Try.prog good 19 [] H_5 = some (.bool t102, H_6) ∧
    (r = (.bool t102, H_6)))
    else
    (r = (.bool false, H_5)))
    else
    ((0 : Int) ≤ (IntKind.wrap .u64 (IntKind.wrap .i64 (t1 - t2))) ∧
    ((0 : Int) ≤ (IntKind.wrap .u64 t1) ∧
    (if (ior .u64 (ishl .u64 t88 (IntKind.wrap .u64 (IntKind.wrap .i64 (t1 - t2)))) t93) = (iand .u64 t0 (IntKind.wrap .u64 ((ishl .u64 1 (IntKind.wrap .u64 t1)) - 1))) then
    (∃ (t120 : Bool) (H_7 : Heap), xC Try.prog good 19 [] H_5 = some (.bool t120, H_7) ∧
    (r = (.bool t120, H_7)))
    else
    (r = (.bool false, H_5)))))))))))) :
    L0 t0 t1 t2 t3 t9b t9o t79 H r := by
  intro J
  show KR _ _ _ (.code (sub B [1, 1, 1, 1, 1, 1, 1, 1, 1, 0, 1]) :: S7) _ _ _
  by_cases c20 : t79 = true
  · replace h := iteT c20 h
    refine KR.br true (by kernel_rfl) (vB (bT c20)) ?_
    refine KR.run 4 [(8, .bool false)] 122 (s' := (.code (sub B [1, 1, 1, 1, 1, 1, 1, 1, 1, 0, 1, 0, 1]) :: S7)) (by kernel_rfl) fun J => ?_
    exact KR.fin (by kernel_rfl) h
  · replace h := iteF c20 h
    refine KR.br false (by kernel_rfl) (vB (bF c20)) ?_
    refine KR.run 4 [(0, .int .u64 t0), (1, .int .i64 t1), (2, .int .i64 t2), (3, .int .i64 t3), (80, .pointer (some ⟨t9b, t9o, none⟩))] 122 (s' := (.reg (opsAt (sub B [1, 1, 1, 1, 1, 1, 1, 1, 1, 1, 0])) [1, 2, 3] :: S9)) (by kernel_rfl) fun J => ?_
    obtain ⟨t81a, t81n, t81k, H_1, q21, h⟩ := h
    refine KR.se (one_ca (by kernel_rfl) q21) ?_
    obtain ⟨t82, H_2, q22, h⟩ := h
    refine KR.se (one_ca (by kernel_rfl) q22) ?_
    refine KR.run 6 [(0, .int .u64 t0), (1, .int .i64 t1), (2, .int .i64 t2), (11, .pointer t82), (83, .pointer t82), (84, .int .i64 t3)] 122 (s' := (.reg (opsAt (sub B [1, 1, 1, 1, 1, 1, 1, 1, 1, 1, 1, 0])) [2] :: S10)) (by kernel_rfl) fun J => ?_
    obtain ⟨t85, H_3, q23, h⟩ := h
    refine KR.se (one_ca (by kernel_rfl) q23) ?_
    refine KR.run 5 [(0, .int .u64 t0), (1, .int .i64 t1), (2, .int .i64 t2), (11, .pointer t82), (86, .pointer t82), (87, .int .i64 t2)] 122 (s' := (.reg (opsAt (sub B [1, 1, 1, 1, 1, 1, 1, 1, 1, 1, 1, 1, 0])) [2, 3] :: S11)) (by kernel_rfl) fun J => ?_
    obtain ⟨t88, H_4, q24, h⟩ := h
    refine KR.se (one_ca (by kernel_rfl) q24) ?_
    refine KR.run 8 [(0, .int .u64 t0), (1, .int .i64 t1), (2, .int .i64 t2), (12, .int .u64 t88), (89, .pointer t82), (92, .int .i64 (IntKind.wrap .i64 (t1 - t2)))] 122 (s' := (.reg (opsAt (sub B [1, 1, 1, 1, 1, 1, 1, 1, 1, 1, 1, 1, 1, 0])) [4, 5] :: S12)) (by kernel_rfl) fun J => ?_
    obtain ⟨t93, H_5, q25, h⟩ := h
    refine KR.se (one_ca (by kernel_rfl) q25) ?_
    refine KR.run 10 [(0, .int .u64 t0), (1, .int .i64 t1), (2, .int .i64 t2), (12, .int .u64 t88), (13, .int .u64 t93), (97, .bool ((IntKind.wrap .i64 (t1 - t2)) == 64))] 122 (s' := (.code (sub B [1, 1, 1, 1, 1, 1, 1, 1, 1, 1, 1, 1, 1, 1, 0, 1]) :: S13)) (by kernel_rfl) fun J => ?_
    by_cases c26 : (IntKind.wrap .i64 (t1 - t2)) = 64
    · replace h := iteT c26 h
      refine KR.br true (by kernel_rfl) (vB (eT c26)) ?_
      refine KR.run 6 [(101, .bool (t93 == t0))] 122 (s' := (.reg (opsAt (sub B [1, 1, 1, 1, 1, 1, 1, 1, 1, 1, 1, 1, 1, 1, 0, 1, 0, 0])) [4, 5, 6] :: S14)) (by kernel_rfl) fun J => ?_
      by_cases c27 : t93 = t0
      · replace h := iteT c27 h
        refine KR.setV 101 (by kernel_rfl) (eT c27) ?_
        obtain ⟨t102, H_6, q28, h⟩ := h
        refine KR.se (one_ca (by kernel_rfl) q28) ?_
        refine KR.run 3 [(8, .bool t102)] 122 (s' := (.code (sub B [1, 1, 1, 1, 1, 1, 1, 1, 1, 1, 1, 1, 1, 1, 0, 1, 0, 1]) :: S13)) (by kernel_rfl) fun J => ?_
        exact KR.fin (by kernel_rfl) h
      · replace h := iteF c27 h
        refine KR.setV 101 (by kernel_rfl) (eF c27) ?_
        refine KR.run 4 [(8, .bool false)] 122 (s' := (.code (sub B [1, 1, 1, 1, 1, 1, 1, 1, 1, 1, 1, 1, 1, 1, 0, 1, 0, 1]) :: S13)) (by kernel_rfl) fun J => ?_
        exact KR.fin (by kernel_rfl) h
    · replace h := iteF c26 h
      refine KR.br false (by kernel_rfl) (vB (eF c26)) ?_
      refine KR.run 8 [(0, .int .u64 t0), (1, .int .i64 t1), (13, .int .u64 t93), (104, .int .u64 t88), (108, .int .u64 (IntKind.wrap .u64 (IntKind.wrap .i64 (t1 - t2))))] 122 (s' := (.reg (opsAt (sub B [1, 1, 1, 1, 1, 1, 1, 1, 1, 1, 1, 1, 1, 1, 1, 0])) [5, 6, 7, 8, 9, 10, 11, 12, 13, 14, 15, 16, 17, 18] :: S15)) (by kernel_rfl) fun J => ?_
      obtain ⟨q29, h⟩ := h
      refine KR.p (one_shl .u64 .u64 t88 (by kernel_rfl) q29) ?_
      refine KR.run 5 [(111, .int .u64 (ior .u64 (ishl .u64 t88 (IntKind.wrap .u64 (IntKind.wrap .i64 (t1 - t2)))) t93)), (112, .int .u64 t0), (114, .int .u64 (IntKind.wrap .u64 t1))] 122 (s' := (.reg (opsAt (sub B [1, 1, 1, 1, 1, 1, 1, 1, 1, 1, 1, 1, 1, 1, 1, 0])) [11, 12, 13, 14, 15, 16, 17, 18] :: S15)) (by kernel_rfl) fun J => ?_
      obtain ⟨q30, h⟩ := h
      refine KR.p (one_shl .u64 .u64 1 (by kernel_rfl) q30) ?_
      refine KR.run 4 [(119, .bool ((ior .u64 (ishl .u64 t88 (IntKind.wrap .u64 (IntKind.wrap .i64 (t1 - t2)))) t93) == (iand .u64 t0 (IntKind.wrap .u64 ((ishl .u64 1 (IntKind.wrap .u64 t1)) - 1)))))] 122 (s' := (.reg (opsAt (sub B [1, 1, 1, 1, 1, 1, 1, 1, 1, 1, 1, 1, 1, 1, 1, 0])) [16, 17, 18] :: S15)) (by kernel_rfl) fun J => ?_
      by_cases c31 : (ior .u64 (ishl .u64 t88 (IntKind.wrap .u64 (IntKind.wrap .i64 (t1 - t2)))) t93) = (iand .u64 t0 (IntKind.wrap .u64 ((ishl .u64 1 (IntKind.wrap .u64 t1)) - 1)))
      · replace h := iteT c31 h
        refine KR.setV 119 (by kernel_rfl) (eT c31) ?_
        obtain ⟨t120, H_7, q32, h⟩ := h
        refine KR.se (one_ca (by kernel_rfl) q32) ?_
        refine KR.run 3 [(8, .bool t120)] 122 (s' := (.code (sub B [1, 1, 1, 1, 1, 1, 1, 1, 1, 1, 1, 1, 1, 1, 1, 1]) :: [])) (by kernel_rfl) fun J => ?_
        exact KR.fin (by kernel_rfl) h
      · replace h := iteF c31 h
        refine KR.setV 119 (by kernel_rfl) (eF c31) ?_
        refine KR.run 4 [(8, .bool false)] 122 (s' := (.code (sub B [1, 1, 1, 1, 1, 1, 1, 1, 1, 1, 1, 1, 1, 1, 1, 1]) :: [])) (by kernel_rfl) fun J => ?_
        exact KR.fin (by kernel_rfl) h
theorem call {a0 : Int} {a1 : Int} {a2 : Int} {a3 : Int} {H : Heap} {r : Value × Heap} (h :
    (IntKind.wrap .u64 (IntKind.wrap .i64 ((IntKind.wrap .i64 (Int.tmod (IntKind.wrap .u64 a1) 65)) + 1))) ≠ 0 ∧
    (∃ (H_1 : Heap), H_1 = H.push (.row [.slice none 0 0, .int .i64 0] true) ∧
    (∃ (H_2 : Heap), H_2 = H_1.push (.row [.slice none 0 0, .int .i64 0] true) ∧
    (∃ (H_3 : Heap), xC Try.prog good 14 [.pointer (some ⟨H.next, 0, none⟩), .int .u64 5, .int .i64 (IntKind.wrap .i64 (Int.tmod (IntKind.wrap .u64 a3) 20))] H_2 = some (.tuple #[], H_3) ∧
    (∃ (H_4 : Heap), xC Try.prog good 14 [.pointer (some ⟨H_1.next, 0, none⟩), .int .u64 5, .int .i64 (IntKind.wrap .i64 (Int.tmod (IntKind.wrap .u64 a3) 20))] H_3 = some (.tuple #[], H_4) ∧
    (∃ (H_5 : Heap), xC Try.prog good 14 [.pointer (some ⟨H.next, 0, none⟩), .int .u64 a0, .int .i64 (IntKind.wrap .i64 (Int.tmod (IntKind.wrap .u64 a1) 65))] H_4 = some (.tuple #[], H_5) ∧
    ((0 : Int) ≤ (IntKind.wrap .u64 (IntKind.wrap .i64 ((IntKind.wrap .i64 (Int.tmod (IntKind.wrap .u64 a1) 65)) - (IntKind.wrap .i64 (Int.tmod (IntKind.wrap .u64 a2) (IntKind.wrap .u64 (IntKind.wrap .i64 ((IntKind.wrap .i64 (Int.tmod (IntKind.wrap .u64 a1) 65)) + 1)))))))) ∧
    (∃ (H_6 : Heap), xC Try.prog good 14 [.pointer (some ⟨H_1.next, 0, none⟩), .int .u64 (ishr .u64 a0 (IntKind.wrap .u64 (IntKind.wrap .i64 ((IntKind.wrap .i64 (Int.tmod (IntKind.wrap .u64 a1) 65)) - (IntKind.wrap .i64 (Int.tmod (IntKind.wrap .u64 a2) (IntKind.wrap .u64 (IntKind.wrap .i64 ((IntKind.wrap .i64 (Int.tmod (IntKind.wrap .u64 a1) 65)) + 1))))))))), .int .i64 (IntKind.wrap .i64 (Int.tmod (IntKind.wrap .u64 a2) (IntKind.wrap .u64 (IntKind.wrap .i64 ((IntKind.wrap .i64 (Int.tmod (IntKind.wrap .u64 a1) 65)) + 1)))))] H_5 = some (.tuple #[], H_6) ∧
    (∃ (H_7 : Heap), xC Try.prog good 14 [.pointer (some ⟨H_1.next, 0, none⟩), .int .u64 a0, .int .i64 (IntKind.wrap .i64 ((IntKind.wrap .i64 (Int.tmod (IntKind.wrap .u64 a1) 65)) - (IntKind.wrap .i64 (Int.tmod (IntKind.wrap .u64 a2) (IntKind.wrap .u64 (IntKind.wrap .i64 ((IntKind.wrap .i64 (Int.tmod (IntKind.wrap .u64 a1) 65)) + 1)))))))] H_6 = some (.tuple #[], H_7) ∧
    (∃ (t59 : Int) (H_8 : Heap), xC Try.prog good 15 [.pointer (some ⟨H.next, 0, none⟩)] H_7 = some (.int .i64 t59, H_8) ∧
    (if t59 = (IntKind.wrap .i64 ((IntKind.wrap .i64 (Int.tmod (IntKind.wrap .u64 a3) 20)) + (IntKind.wrap .i64 (Int.tmod (IntKind.wrap .u64 a1) 65)))) then
    (∃ (t66 : Int) (H_9 : Heap), xC Try.prog good 15 [.pointer (some ⟨H_1.next, 0, none⟩)] H_8 = some (.int .i64 t66, H_9) ∧
    (∃ (t68 : Int) (H_10 : Heap), xC Try.prog good 15 [.pointer (some ⟨H.next, 0, none⟩)] H_9 = some (.int .i64 t68, H_10) ∧
    (if t66 = t68 then
    (∃ (t73a : Option Addr) (t73n : Nat) (t73k : Nat) (H_11 : Heap), xC Try.prog good 16 [.pointer (some ⟨H.next, 0, none⟩)] H_10 = some (.slice t73a t73n t73k, H_11) ∧
    (∃ (t74 : ByteArray), pstrb H_11 t73a t73n = some t74 ∧
    (∃ (t76a : Option Addr) (t76n : Nat) (t76k : Nat) (H_12 : Heap), xC Try.prog good 16 [.pointer (some ⟨H_1.next, 0, none⟩)] H_11 = some (.slice t76a t76n t76k, H_12) ∧
    (∃ (t77 : ByteArray), pstrb H_12 t76a t76n = some t77 ∧
    (pstrb H_12 t73a t73n = some t74 ∧
    (L0 (a0) ((IntKind.wrap .i64 (Int.tmod (IntKind.wrap .u64 a1) 65))) ((IntKind.wrap .i64 (Int.tmod (IntKind.wrap .u64 a2) (IntKind.wrap .u64 (IntKind.wrap .i64 ((IntKind.wrap .i64 (Int.tmod (IntKind.wrap .u64 a1) 65)) + 1)))))) ((IntKind.wrap .i64 (Int.tmod (IntKind.wrap .u64 a3) 20))) (H.next) (0) ((!(t74.toList == t77.toList))) H_12 r))))))
    else
    ((L0 (a0) ((IntKind.wrap .i64 (Int.tmod (IntKind.wrap .u64 a1) 65))) ((IntKind.wrap .i64 (Int.tmod (IntKind.wrap .u64 a2) (IntKind.wrap .u64 (IntKind.wrap .i64 ((IntKind.wrap .i64 (Int.tmod (IntKind.wrap .u64 a1) 65)) + 1)))))) ((IntKind.wrap .i64 (Int.tmod (IntKind.wrap .u64 a3) 20))) (H.next) (0) (true) H_10 r)))))
    else
    ((L0 (a0) ((IntKind.wrap .i64 (Int.tmod (IntKind.wrap .u64 a1) 65))) ((IntKind.wrap .i64 (Int.tmod (IntKind.wrap .u64 a2) (IntKind.wrap .u64 (IntKind.wrap .i64 ((IntKind.wrap .i64 (Int.tmod (IntKind.wrap .u64 a1) 65)) + 1)))))) ((IntKind.wrap .i64 (Int.tmod (IntKind.wrap .u64 a3) 20))) (H.next) (0) (true) H_8 r))))))))))))) :
    xC Try.prog good 3 [.int .u64 a0, .int .i64 a1, .int .i64 a2, .int .i64 a3] H = some r := by
  refine KR.enter (fn := Try.f3) (c := B) (by kernel_rfl) (by kernel_rfl) ?_
  refine KR.run 24 [(0, .int .u64 a0), (1, .int .i64 (IntKind.wrap .i64 (Int.tmod (IntKind.wrap .u64 a1) 65))), (3, .int .i64 (IntKind.wrap .i64 (Int.tmod (IntKind.wrap .u64 a3) 20))), (23, .int .u64 (IntKind.wrap .u64 a2)), (26, .int .u64 (IntKind.wrap .u64 (IntKind.wrap .i64 ((IntKind.wrap .i64 (Int.tmod (IntKind.wrap .u64 a1) 65)) + 1))))] 122 (s' := (.reg (opsAt (sub B [1, 1, 0])) [5, 6, 7] :: S0)) (by kernel_rfl) fun J => ?_
  obtain ⟨q1, h⟩ := h
  refine KR.p (one_rem .u64 (IntKind.wrap .u64 a2) (by kernel_rfl) q1) ?_
  refine KR.run 6 [(0, .int .u64 a0), (1, .int .i64 (IntKind.wrap .i64 (Int.tmod (IntKind.wrap .u64 a1) 65))), (2, .int .i64 (IntKind.wrap .i64 (Int.tmod (IntKind.wrap .u64 a2) (IntKind.wrap .u64 (IntKind.wrap .i64 ((IntKind.wrap .i64 (Int.tmod (IntKind.wrap .u64 a1) 65)) + 1)))))), (3, .int .i64 (IntKind.wrap .i64 (Int.tmod (IntKind.wrap .u64 a3) 20))), (29, .agg #[.slice none 0 0, .int .i64 0])] 122 (s' := (.reg (opsAt (sub B [1, 1, 1, 0])) [1, 2, 3, 4, 5] :: S1)) (by kernel_rfl) fun J => ?_
  obtain ⟨H_1, q2, h⟩ := h
  refine KR.mk (w := pRow [.slice none 0 0, .int .i64 0]) (one_al (by kernel_rfl)) q2 ?_
  refine KR.run 1 [(0, .int .u64 a0), (1, .int .i64 (IntKind.wrap .i64 (Int.tmod (IntKind.wrap .u64 a1) 65))), (2, .int .i64 (IntKind.wrap .i64 (Int.tmod (IntKind.wrap .u64 a2) (IntKind.wrap .u64 (IntKind.wrap .i64 ((IntKind.wrap .i64 (Int.tmod (IntKind.wrap .u64 a1) 65)) + 1)))))), (3, .int .i64 (IntKind.wrap .i64 (Int.tmod (IntKind.wrap .u64 a3) 20))), (30, .pointer (some ⟨H.next, 0, none⟩)), (31, .agg #[.slice none 0 0, .int .i64 0])] 122 (s' := (.reg (opsAt (sub B [1, 1, 1, 0])) [3, 4, 5] :: S1)) (by kernel_rfl) fun J => ?_
  obtain ⟨H_2, q3, h⟩ := h
  refine KR.mk (w := pRow [.slice none 0 0, .int .i64 0]) (one_al (by kernel_rfl)) q3 ?_
  refine KR.run 7 [(0, .int .u64 a0), (1, .int .i64 (IntKind.wrap .i64 (Int.tmod (IntKind.wrap .u64 a1) 65))), (2, .int .i64 (IntKind.wrap .i64 (Int.tmod (IntKind.wrap .u64 a2) (IntKind.wrap .u64 (IntKind.wrap .i64 ((IntKind.wrap .i64 (Int.tmod (IntKind.wrap .u64 a1) 65)) + 1)))))), (3, .int .i64 (IntKind.wrap .i64 (Int.tmod (IntKind.wrap .u64 a3) 20))), (9, .pointer (some ⟨H.next, 0, none⟩)), (10, .pointer (some ⟨H_1.next, 0, none⟩)), (33, .pointer (some ⟨H.next, 0, none⟩)), (34, .int .i64 (IntKind.wrap .i64 (Int.tmod (IntKind.wrap .u64 a3) 20)))] 122 (s' := (.reg (opsAt (sub B [1, 1, 1, 1, 0])) [2] :: S2)) (by kernel_rfl) fun J => ?_
  obtain ⟨H_3, q4, h⟩ := h
  refine KR.se (one_ca (by kernel_rfl) q4) ?_
  refine KR.run 5 [(0, .int .u64 a0), (1, .int .i64 (IntKind.wrap .i64 (Int.tmod (IntKind.wrap .u64 a1) 65))), (2, .int .i64 (IntKind.wrap .i64 (Int.tmod (IntKind.wrap .u64 a2) (IntKind.wrap .u64 (IntKind.wrap .i64 ((IntKind.wrap .i64 (Int.tmod (IntKind.wrap .u64 a1) 65)) + 1)))))), (3, .int .i64 (IntKind.wrap .i64 (Int.tmod (IntKind.wrap .u64 a3) 20))), (9, .pointer (some ⟨H.next, 0, none⟩)), (10, .pointer (some ⟨H_1.next, 0, none⟩)), (36, .pointer (some ⟨H_1.next, 0, none⟩)), (37, .int .i64 (IntKind.wrap .i64 (Int.tmod (IntKind.wrap .u64 a3) 20)))] 122 (s' := (.reg (opsAt (sub B [1, 1, 1, 1, 1, 0])) [2] :: S3)) (by kernel_rfl) fun J => ?_
  obtain ⟨H_4, q5, h⟩ := h
  refine KR.se (one_ca (by kernel_rfl) q5) ?_
  refine KR.run 6 [(0, .int .u64 a0), (1, .int .i64 (IntKind.wrap .i64 (Int.tmod (IntKind.wrap .u64 a1) 65))), (2, .int .i64 (IntKind.wrap .i64 (Int.tmod (IntKind.wrap .u64 a2) (IntKind.wrap .u64 (IntKind.wrap .i64 ((IntKind.wrap .i64 (Int.tmod (IntKind.wrap .u64 a1) 65)) + 1)))))), (3, .int .i64 (IntKind.wrap .i64 (Int.tmod (IntKind.wrap .u64 a3) 20))), (9, .pointer (some ⟨H.next, 0, none⟩)), (10, .pointer (some ⟨H_1.next, 0, none⟩)), (39, .pointer (some ⟨H.next, 0, none⟩)), (40, .int .u64 a0), (41, .int .i64 (IntKind.wrap .i64 (Int.tmod (IntKind.wrap .u64 a1) 65)))] 122 (s' := (.reg (opsAt (sub B [1, 1, 1, 1, 1, 1, 0])) [3] :: S4)) (by kernel_rfl) fun J => ?_
  obtain ⟨H_5, q6, h⟩ := h
  refine KR.se (one_ca (by kernel_rfl) q6) ?_
  refine KR.run 9 [(0, .int .u64 a0), (1, .int .i64 (IntKind.wrap .i64 (Int.tmod (IntKind.wrap .u64 a1) 65))), (2, .int .i64 (IntKind.wrap .i64 (Int.tmod (IntKind.wrap .u64 a2) (IntKind.wrap .u64 (IntKind.wrap .i64 ((IntKind.wrap .i64 (Int.tmod (IntKind.wrap .u64 a1) 65)) + 1)))))), (3, .int .i64 (IntKind.wrap .i64 (Int.tmod (IntKind.wrap .u64 a3) 20))), (9, .pointer (some ⟨H.next, 0, none⟩)), (10, .pointer (some ⟨H_1.next, 0, none⟩)), (43, .pointer (some ⟨H_1.next, 0, none⟩)), (44, .int .u64 a0), (48, .int .u64 (IntKind.wrap .u64 (IntKind.wrap .i64 ((IntKind.wrap .i64 (Int.tmod (IntKind.wrap .u64 a1) 65)) - (IntKind.wrap .i64 (Int.tmod (IntKind.wrap .u64 a2) (IntKind.wrap .u64 (IntKind.wrap .i64 ((IntKind.wrap .i64 (Int.tmod (IntKind.wrap .u64 a1) 65)) + 1)))))))))] 122 (s' := (.reg (opsAt (sub B [1, 1, 1, 1, 1, 1, 1, 0])) [6, 7, 8] :: S5)) (by kernel_rfl) fun J => ?_
  obtain ⟨q7, h⟩ := h
  refine KR.p (one_shr .u64 .u64 a0 (by kernel_rfl) q7) ?_
  refine KR.run 1 [(0, .int .u64 a0), (1, .int .i64 (IntKind.wrap .i64 (Int.tmod (IntKind.wrap .u64 a1) 65))), (2, .int .i64 (IntKind.wrap .i64 (Int.tmod (IntKind.wrap .u64 a2) (IntKind.wrap .u64 (IntKind.wrap .i64 ((IntKind.wrap .i64 (Int.tmod (IntKind.wrap .u64 a1) 65)) + 1)))))), (3, .int .i64 (IntKind.wrap .i64 (Int.tmod (IntKind.wrap .u64 a3) 20))), (9, .pointer (some ⟨H.next, 0, none⟩)), (10, .pointer (some ⟨H_1.next, 0, none⟩)), (43, .pointer (some ⟨H_1.next, 0, none⟩)), (49, .int .u64 (ishr .u64 a0 (IntKind.wrap .u64 (IntKind.wrap .i64 ((IntKind.wrap .i64 (Int.tmod (IntKind.wrap .u64 a1) 65)) - (IntKind.wrap .i64 (Int.tmod (IntKind.wrap .u64 a2) (IntKind.wrap .u64 (IntKind.wrap .i64 ((IntKind.wrap .i64 (Int.tmod (IntKind.wrap .u64 a1) 65)) + 1)))))))))), (50, .int .i64 (IntKind.wrap .i64 (Int.tmod (IntKind.wrap .u64 a2) (IntKind.wrap .u64 (IntKind.wrap .i64 ((IntKind.wrap .i64 (Int.tmod (IntKind.wrap .u64 a1) 65)) + 1))))))] 122 (s' := (.reg (opsAt (sub B [1, 1, 1, 1, 1, 1, 1, 0])) [8] :: S5)) (by kernel_rfl) fun J => ?_
  obtain ⟨H_6, q8, h⟩ := h
  refine KR.se (one_ca (by kernel_rfl) q8) ?_
  refine KR.run 8 [(0, .int .u64 a0), (1, .int .i64 (IntKind.wrap .i64 (Int.tmod (IntKind.wrap .u64 a1) 65))), (2, .int .i64 (IntKind.wrap .i64 (Int.tmod (IntKind.wrap .u64 a2) (IntKind.wrap .u64 (IntKind.wrap .i64 ((IntKind.wrap .i64 (Int.tmod (IntKind.wrap .u64 a1) 65)) + 1)))))), (3, .int .i64 (IntKind.wrap .i64 (Int.tmod (IntKind.wrap .u64 a3) 20))), (9, .pointer (some ⟨H.next, 0, none⟩)), (10, .pointer (some ⟨H_1.next, 0, none⟩)), (52, .pointer (some ⟨H_1.next, 0, none⟩)), (53, .int .u64 a0), (56, .int .i64 (IntKind.wrap .i64 ((IntKind.wrap .i64 (Int.tmod (IntKind.wrap .u64 a1) 65)) - (IntKind.wrap .i64 (Int.tmod (IntKind.wrap .u64 a2) (IntKind.wrap .u64 (IntKind.wrap .i64 ((IntKind.wrap .i64 (Int.tmod (IntKind.wrap .u64 a1) 65)) + 1))))))))] 122 (s' := (.reg (opsAt (sub B [1, 1, 1, 1, 1, 1, 1, 1, 0])) [5] :: S6)) (by kernel_rfl) fun J => ?_
  obtain ⟨H_7, q9, h⟩ := h
  refine KR.se (one_ca (by kernel_rfl) q9) ?_
  refine KR.run 3 [(0, .int .u64 a0), (1, .int .i64 (IntKind.wrap .i64 (Int.tmod (IntKind.wrap .u64 a1) 65))), (2, .int .i64 (IntKind.wrap .i64 (Int.tmod (IntKind.wrap .u64 a2) (IntKind.wrap .u64 (IntKind.wrap .i64 ((IntKind.wrap .i64 (Int.tmod (IntKind.wrap .u64 a1) 65)) + 1)))))), (3, .int .i64 (IntKind.wrap .i64 (Int.tmod (IntKind.wrap .u64 a3) 20))), (9, .pointer (some ⟨H.next, 0, none⟩)), (10, .pointer (some ⟨H_1.next, 0, none⟩))] 122 (s' := (.code (sub B [1, 1, 1, 1, 1, 1, 1, 1, 1, 0, 0]) :: S8)) (by kernel_rfl) fun J => ?_
  refine KE.start H_7 (by kernel_rfl) (by kernel_rfl) ?_
  refine KE.run 1 [(0, .int .u64 a0), (1, .int .i64 (IntKind.wrap .i64 (Int.tmod (IntKind.wrap .u64 a1) 65))), (2, .int .i64 (IntKind.wrap .i64 (Int.tmod (IntKind.wrap .u64 a2) (IntKind.wrap .u64 (IntKind.wrap .i64 ((IntKind.wrap .i64 (Int.tmod (IntKind.wrap .u64 a1) 65)) + 1)))))), (3, .int .i64 (IntKind.wrap .i64 (Int.tmod (IntKind.wrap .u64 a3) 20))), (9, .pointer (some ⟨H.next, 0, none⟩)), (10, .pointer (some ⟨H_1.next, 0, none⟩)), (58, .pointer (some ⟨H.next, 0, none⟩))] 122 1 (by kernel_rfl) fun J => ?_
  obtain ⟨t59, H_8, q10, h⟩ := h
  refine KE.se (one_ca (by kernel_rfl) q10) (by kernel_rfl) ?_
  refine KE.run 5 [(0, .int .u64 a0), (1, .int .i64 (IntKind.wrap .i64 (Int.tmod (IntKind.wrap .u64 a1) 65))), (2, .int .i64 (IntKind.wrap .i64 (Int.tmod (IntKind.wrap .u64 a2) (IntKind.wrap .u64 (IntKind.wrap .i64 ((IntKind.wrap .i64 (Int.tmod (IntKind.wrap .u64 a1) 65)) + 1)))))), (3, .int .i64 (IntKind.wrap .i64 (Int.tmod (IntKind.wrap .u64 a3) 20))), (9, .pointer (some ⟨H.next, 0, none⟩)), (10, .pointer (some ⟨H_1.next, 0, none⟩)), (64, .bool (!(t59 == (IntKind.wrap .i64 ((IntKind.wrap .i64 (Int.tmod (IntKind.wrap .u64 a3) 20)) + (IntKind.wrap .i64 (Int.tmod (IntKind.wrap .u64 a1) 65)))))))] 122 7 (by kernel_rfl) fun J => ?_
  by_cases c11 : t59 = (IntKind.wrap .i64 ((IntKind.wrap .i64 (Int.tmod (IntKind.wrap .u64 a3) 20)) + (IntKind.wrap .i64 (Int.tmod (IntKind.wrap .u64 a1) 65))))
  · replace h := iteT c11 h
    refine KE.setV 64 (by kernel_rfl) (nB (eT c11)) ?_
    refine KE.run 1 [(0, .int .u64 a0), (1, .int .i64 (IntKind.wrap .i64 (Int.tmod (IntKind.wrap .u64 a1) 65))), (2, .int .i64 (IntKind.wrap .i64 (Int.tmod (IntKind.wrap .u64 a2) (IntKind.wrap .u64 (IntKind.wrap .i64 ((IntKind.wrap .i64 (Int.tmod (IntKind.wrap .u64 a1) 65)) + 1)))))), (3, .int .i64 (IntKind.wrap .i64 (Int.tmod (IntKind.wrap .u64 a3) 20))), (9, .pointer (some ⟨H.next, 0, none⟩)), (10, .pointer (some ⟨H_1.next, 0, none⟩)), (64, .bool false), (65, .pointer (some ⟨H_1.next, 0, none⟩))] 122 8 (by kernel_rfl) fun J => ?_
    obtain ⟨t66, H_9, q12, h⟩ := h
    refine KE.se (one_ca (by kernel_rfl) q12) (by kernel_rfl) ?_
    refine KE.run 1 [(0, .int .u64 a0), (1, .int .i64 (IntKind.wrap .i64 (Int.tmod (IntKind.wrap .u64 a1) 65))), (2, .int .i64 (IntKind.wrap .i64 (Int.tmod (IntKind.wrap .u64 a2) (IntKind.wrap .u64 (IntKind.wrap .i64 ((IntKind.wrap .i64 (Int.tmod (IntKind.wrap .u64 a1) 65)) + 1)))))), (3, .int .i64 (IntKind.wrap .i64 (Int.tmod (IntKind.wrap .u64 a3) 20))), (9, .pointer (some ⟨H.next, 0, none⟩)), (10, .pointer (some ⟨H_1.next, 0, none⟩)), (64, .bool false), (66, .int .i64 t66), (67, .pointer (some ⟨H.next, 0, none⟩))] 122 10 (by kernel_rfl) fun J => ?_
    obtain ⟨t68, H_10, q13, h⟩ := h
    refine KE.se (one_ca (by kernel_rfl) q13) (by kernel_rfl) ?_
    refine KE.run 3 [(0, .int .u64 a0), (1, .int .i64 (IntKind.wrap .i64 (Int.tmod (IntKind.wrap .u64 a1) 65))), (2, .int .i64 (IntKind.wrap .i64 (Int.tmod (IntKind.wrap .u64 a2) (IntKind.wrap .u64 (IntKind.wrap .i64 ((IntKind.wrap .i64 (Int.tmod (IntKind.wrap .u64 a1) 65)) + 1)))))), (3, .int .i64 (IntKind.wrap .i64 (Int.tmod (IntKind.wrap .u64 a3) 20))), (9, .pointer (some ⟨H.next, 0, none⟩)), (10, .pointer (some ⟨H_1.next, 0, none⟩)), (71, .bool (!(t66 == t68)))] 122 14 (by kernel_rfl) fun J => ?_
    by_cases c14 : t66 = t68
    · replace h := iteT c14 h
      refine KE.setV 71 (by kernel_rfl) (nB (eT c14)) ?_
      refine KE.run 1 [(0, .int .u64 a0), (1, .int .i64 (IntKind.wrap .i64 (Int.tmod (IntKind.wrap .u64 a1) 65))), (2, .int .i64 (IntKind.wrap .i64 (Int.tmod (IntKind.wrap .u64 a2) (IntKind.wrap .u64 (IntKind.wrap .i64 ((IntKind.wrap .i64 (Int.tmod (IntKind.wrap .u64 a1) 65)) + 1)))))), (3, .int .i64 (IntKind.wrap .i64 (Int.tmod (IntKind.wrap .u64 a3) 20))), (9, .pointer (some ⟨H.next, 0, none⟩)), (10, .pointer (some ⟨H_1.next, 0, none⟩)), (71, .bool false), (72, .pointer (some ⟨H.next, 0, none⟩))] 122 15 (by kernel_rfl) fun J => ?_
      obtain ⟨t73a, t73n, t73k, H_11, q15, h⟩ := h
      refine KE.se (one_ca (by kernel_rfl) q15) (by kernel_rfl) ?_
      obtain ⟨t74, q16, h⟩ := h
      refine KE.rdF (one_str (by kernel_rfl) q16) (by kernel_rfl) ?_
      refine KE.run 1 [(0, .int .u64 a0), (1, .int .i64 (IntKind.wrap .i64 (Int.tmod (IntKind.wrap .u64 a1) 65))), (2, .int .i64 (IntKind.wrap .i64 (Int.tmod (IntKind.wrap .u64 a2) (IntKind.wrap .u64 (IntKind.wrap .i64 ((IntKind.wrap .i64 (Int.tmod (IntKind.wrap .u64 a1) 65)) + 1)))))), (3, .int .i64 (IntKind.wrap .i64 (Int.tmod (IntKind.wrap .u64 a3) 20))), (9, .pointer (some ⟨H.next, 0, none⟩)), (71, .bool false), (74, .string t74), (75, .pointer (some ⟨H_1.next, 0, none⟩))] 122 18 (by kernel_rfl) fun J => ?_
      obtain ⟨t76a, t76n, t76k, H_12, q17, h⟩ := h
      refine KE.se (one_ca (by kernel_rfl) q17) (by kernel_rfl) ?_
      obtain ⟨t77, q18, h⟩ := h
      refine KE.rdN (one_str (by kernel_rfl) q18) (by kernel_rfl) ?_
      refine KE.run 2 [(0, .int .u64 a0), (1, .int .i64 (IntKind.wrap .i64 (Int.tmod (IntKind.wrap .u64 a1) 65))), (2, .int .i64 (IntKind.wrap .i64 (Int.tmod (IntKind.wrap .u64 a2) (IntKind.wrap .u64 (IntKind.wrap .i64 ((IntKind.wrap .i64 (Int.tmod (IntKind.wrap .u64 a1) 65)) + 1)))))), (3, .int .i64 (IntKind.wrap .i64 (Int.tmod (IntKind.wrap .u64 a3) 20))), (9, .pointer (some ⟨H.next, 0, none⟩)), (79, .bool (!(t74.toList == t77.toList)))] 122 22 (by kernel_rfl) fun J => ?_
      obtain ⟨q19, h⟩ := h
      refine KE.fin (H' := H_12) (by kernel_rfl) (rdsS (rfl) (rd_ok (Hs := [H_12]) (by kernel_rfl) (by kernel_rfl) ⟨one_str (by kernel_rfl) q19, trivial⟩)) (by kernel_rfl) ?_
      exact KR.run 0 [(0, .int .u64 a0), (1, .int .i64 (IntKind.wrap .i64 (Int.tmod (IntKind.wrap .u64 a1) 65))), (2, .int .i64 (IntKind.wrap .i64 (Int.tmod (IntKind.wrap .u64 a2) (IntKind.wrap .u64 (IntKind.wrap .i64 ((IntKind.wrap .i64 (Int.tmod (IntKind.wrap .u64 a1) 65)) + 1)))))), (3, .int .i64 (IntKind.wrap .i64 (Int.tmod (IntKind.wrap .u64 a3) 20))), (9, .pointer (some ⟨H.next, 0, none⟩)), (79, .bool (!(t74.toList == t77.toList)))] 122 (s' := (.code (sub B [1, 1, 1, 1, 1, 1, 1, 1, 1, 0, 1]) :: S7)) (by kernel_rfl) h
    · replace h := iteF c14 h
      refine KE.setV 71 (by kernel_rfl) (nB (eF c14)) ?_
      refine KE.run 1 [(0, .int .u64 a0), (1, .int .i64 (IntKind.wrap .i64 (Int.tmod (IntKind.wrap .u64 a1) 65))), (2, .int .i64 (IntKind.wrap .i64 (Int.tmod (IntKind.wrap .u64 a2) (IntKind.wrap .u64 (IntKind.wrap .i64 ((IntKind.wrap .i64 (Int.tmod (IntKind.wrap .u64 a1) 65)) + 1)))))), (3, .int .i64 (IntKind.wrap .i64 (Int.tmod (IntKind.wrap .u64 a3) 20))), (9, .pointer (some ⟨H.next, 0, none⟩)), (10, .pointer (some ⟨H_1.next, 0, none⟩)), (71, .bool true), (72, undef)] 122 15 (by kernel_rfl) fun J => ?_
      refine KE.no (Gc := H_10) (by kernel_rfl) (by kernel_rfl) (by kernel_rfl) ?_
      refine KE.run 2 [(0, .int .u64 a0), (1, .int .i64 (IntKind.wrap .i64 (Int.tmod (IntKind.wrap .u64 a1) 65))), (2, .int .i64 (IntKind.wrap .i64 (Int.tmod (IntKind.wrap .u64 a2) (IntKind.wrap .u64 (IntKind.wrap .i64 ((IntKind.wrap .i64 (Int.tmod (IntKind.wrap .u64 a1) 65)) + 1)))))), (3, .int .i64 (IntKind.wrap .i64 (Int.tmod (IntKind.wrap .u64 a3) 20))), (9, .pointer (some ⟨H.next, 0, none⟩)), (71, .bool true), (74, undef), (75, undef)] 122 18 (by kernel_rfl) fun J => ?_
      refine KE.no (Gc := H_10) (by kernel_rfl) (by kernel_rfl) (by kernel_rfl) ?_
      refine KE.run 3 [(0, .int .u64 a0), (1, .int .i64 (IntKind.wrap .i64 (Int.tmod (IntKind.wrap .u64 a1) 65))), (2, .int .i64 (IntKind.wrap .i64 (Int.tmod (IntKind.wrap .u64 a2) (IntKind.wrap .u64 (IntKind.wrap .i64 ((IntKind.wrap .i64 (Int.tmod (IntKind.wrap .u64 a1) 65)) + 1)))))), (3, .int .i64 (IntKind.wrap .i64 (Int.tmod (IntKind.wrap .u64 a3) 20))), (9, .pointer (some ⟨H.next, 0, none⟩)), (79, .bool true)] 122 22 (by kernel_rfl) fun J => ?_
      refine KE.fin (H' := H_10) (by kernel_rfl) (rfl) (by kernel_rfl) ?_
      exact KR.run 0 [(0, .int .u64 a0), (1, .int .i64 (IntKind.wrap .i64 (Int.tmod (IntKind.wrap .u64 a1) 65))), (2, .int .i64 (IntKind.wrap .i64 (Int.tmod (IntKind.wrap .u64 a2) (IntKind.wrap .u64 (IntKind.wrap .i64 ((IntKind.wrap .i64 (Int.tmod (IntKind.wrap .u64 a1) 65)) + 1)))))), (3, .int .i64 (IntKind.wrap .i64 (Int.tmod (IntKind.wrap .u64 a3) 20))), (9, .pointer (some ⟨H.next, 0, none⟩)), (79, .bool true)] 122 (s' := (.code (sub B [1, 1, 1, 1, 1, 1, 1, 1, 1, 0, 1]) :: S7)) (by kernel_rfl) h
  · replace h := iteF c11 h
    refine KE.setV 64 (by kernel_rfl) (nB (eF c11)) ?_
    refine KE.run 1 [(0, .int .u64 a0), (1, .int .i64 (IntKind.wrap .i64 (Int.tmod (IntKind.wrap .u64 a1) 65))), (2, .int .i64 (IntKind.wrap .i64 (Int.tmod (IntKind.wrap .u64 a2) (IntKind.wrap .u64 (IntKind.wrap .i64 ((IntKind.wrap .i64 (Int.tmod (IntKind.wrap .u64 a1) 65)) + 1)))))), (3, .int .i64 (IntKind.wrap .i64 (Int.tmod (IntKind.wrap .u64 a3) 20))), (9, .pointer (some ⟨H.next, 0, none⟩)), (10, .pointer (some ⟨H_1.next, 0, none⟩)), (64, .bool true), (65, undef)] 122 8 (by kernel_rfl) fun J => ?_
    refine KE.no (Gc := H_8) (by kernel_rfl) (by kernel_rfl) (by kernel_rfl) ?_
    refine KE.run 1 [(0, .int .u64 a0), (1, .int .i64 (IntKind.wrap .i64 (Int.tmod (IntKind.wrap .u64 a1) 65))), (2, .int .i64 (IntKind.wrap .i64 (Int.tmod (IntKind.wrap .u64 a2) (IntKind.wrap .u64 (IntKind.wrap .i64 ((IntKind.wrap .i64 (Int.tmod (IntKind.wrap .u64 a1) 65)) + 1)))))), (3, .int .i64 (IntKind.wrap .i64 (Int.tmod (IntKind.wrap .u64 a3) 20))), (9, .pointer (some ⟨H.next, 0, none⟩)), (10, .pointer (some ⟨H_1.next, 0, none⟩)), (64, .bool true), (66, undef), (67, undef)] 122 10 (by kernel_rfl) fun J => ?_
    refine KE.no (Gc := H_8) (by kernel_rfl) (by kernel_rfl) (by kernel_rfl) ?_
    refine KE.run 4 [(0, .int .u64 a0), (1, .int .i64 (IntKind.wrap .i64 (Int.tmod (IntKind.wrap .u64 a1) 65))), (2, .int .i64 (IntKind.wrap .i64 (Int.tmod (IntKind.wrap .u64 a2) (IntKind.wrap .u64 (IntKind.wrap .i64 ((IntKind.wrap .i64 (Int.tmod (IntKind.wrap .u64 a1) 65)) + 1)))))), (3, .int .i64 (IntKind.wrap .i64 (Int.tmod (IntKind.wrap .u64 a3) 20))), (9, .pointer (some ⟨H.next, 0, none⟩)), (10, .pointer (some ⟨H_1.next, 0, none⟩)), (71, .bool true), (72, undef)] 122 15 (by kernel_rfl) fun J => ?_
    refine KE.no (Gc := H_8) (by kernel_rfl) (by kernel_rfl) (by kernel_rfl) ?_
    refine KE.run 2 [(0, .int .u64 a0), (1, .int .i64 (IntKind.wrap .i64 (Int.tmod (IntKind.wrap .u64 a1) 65))), (2, .int .i64 (IntKind.wrap .i64 (Int.tmod (IntKind.wrap .u64 a2) (IntKind.wrap .u64 (IntKind.wrap .i64 ((IntKind.wrap .i64 (Int.tmod (IntKind.wrap .u64 a1) 65)) + 1)))))), (3, .int .i64 (IntKind.wrap .i64 (Int.tmod (IntKind.wrap .u64 a3) 20))), (9, .pointer (some ⟨H.next, 0, none⟩)), (71, .bool true), (74, undef), (75, undef)] 122 18 (by kernel_rfl) fun J => ?_
    refine KE.no (Gc := H_8) (by kernel_rfl) (by kernel_rfl) (by kernel_rfl) ?_
    refine KE.run 3 [(0, .int .u64 a0), (1, .int .i64 (IntKind.wrap .i64 (Int.tmod (IntKind.wrap .u64 a1) 65))), (2, .int .i64 (IntKind.wrap .i64 (Int.tmod (IntKind.wrap .u64 a2) (IntKind.wrap .u64 (IntKind.wrap .i64 ((IntKind.wrap .i64 (Int.tmod (IntKind.wrap .u64 a1) 65)) + 1)))))), (3, .int .i64 (IntKind.wrap .i64 (Int.tmod (IntKind.wrap .u64 a3) 20))), (9, .pointer (some ⟨H.next, 0, none⟩)), (79, .bool true)] 122 22 (by kernel_rfl) fun J => ?_
    refine KE.fin (H' := H_8) (by kernel_rfl) (rfl) (by kernel_rfl) ?_
    exact KR.run 0 [(0, .int .u64 a0), (1, .int .i64 (IntKind.wrap .i64 (Int.tmod (IntKind.wrap .u64 a1) 65))), (2, .int .i64 (IntKind.wrap .i64 (Int.tmod (IntKind.wrap .u64 a2) (IntKind.wrap .u64 (IntKind.wrap .i64 ((IntKind.wrap .i64 (Int.tmod (IntKind.wrap .u64 a1) 65)) + 1)))))), (3, .int .i64 (IntKind.wrap .i64 (Int.tmod (IntKind.wrap .u64 a3) 20))), (9, .pointer (some ⟨H.next, 0, none⟩)), (79, .bool true)] 122 (s' := (.code (sub B [1, 1, 1, 1, 1, 1, 1, 1, 1, 0, 1]) :: S7)) (by kernel_rfl) h
end F3
/-! #### 7 campanile/campanilelaw3.BitsReads -/
namespace F7
noncomputable def B : Code := bodyOf Try.f7
noncomputable def S0 : List It := (.code (sub B [1, 1]) :: [])
noncomputable def S3 : List It := (.code (sub B [1, 1, 1]) :: [])
noncomputable def S4 : List It := (.code (sub B [1, 1, 1, 1]) :: [])
noncomputable def S18 : List It := (.code (sub B [1, 1, 1, 1, 1]) :: [])
noncomputable def S1 : List It := (.code (sub B [1, 0, 1]) :: S0)
noncomputable def S2 : List It := (.code (sub B [1, 0, 1, 0, 1]) :: S0)
noncomputable def S5 : List It := (.blk 0 :: S4)
noncomputable def S6 : List It := (.lp (sub B [1, 1, 1, 0, 1, 0, 0]) :: S5)
noncomputable def S7 : List It := (.code (sub B [1, 1, 1, 0, 1, 0, 0, 1, 1]) :: S6)
noncomputable def S8 : List It := (.code (sub B [1, 1, 1, 0, 1, 0, 0, 1, 1, 1]) :: S6)
noncomputable def S9 : List It := (.blk 1 :: S8)
noncomputable def S10 : List It := (.code (sub B [1, 1, 1, 0, 1, 0, 0, 1, 1, 0, 0, 1]) :: S9)
noncomputable def S11 : List It := (.code (sub B [1, 1, 1, 0, 1, 0, 0, 1, 1, 0, 0, 1, 1, 1]) :: S9)
noncomputable def S15 : List It := (.code (sub B [1, 1, 1, 0, 1, 0, 0, 1, 1, 0, 0, 1, 1, 1, 1]) :: S9)
noncomputable def S12 : List It := (.blk 2 :: S11)
noncomputable def S19 : List It := (.code (sub B [1, 1, 1, 0, 1, 0, 0, 1, 1, 0, 0, 1, 1, 1, 0]) :: S15)
noncomputable def S13 : List It := (.code (sub B [1, 1, 1, 0, 1, 0, 0, 1, 1, 0, 0, 1, 1, 0, 0, 1]) :: S12)
noncomputable def S14 : List It := (.code (sub B [1, 1, 1, 0, 1, 0, 0, 1, 1, 0, 0, 1, 1, 0, 0, 1, 0, 1]) :: S12)
noncomputable def S16 : List It := (.code (sub B [1, 1, 1, 0, 1, 0, 0, 1, 1, 0, 0, 1, 1, 0, 0, 1, 1, 1]) :: S12)
noncomputable def S17 : List It := (.code (sub B [1, 1, 1, 0, 1, 0, 0, 1, 1, 0, 0, 1, 1, 0, 0, 1, 1, 1, 0, 1]) :: S12)
def L0 (t0a : Option Addr) (t0n : Nat) (t0k : Nat) (t1a : Option Addr) (t1n : Nat) (t1k : Nat) (t18 : Bool) (H : Heap) (r : Value × Heap) : Prop := ∀ J, KR Try.prog good Try.f7 S1 (mat J 81 [(0, .slice t0a t0n t0k), (1, .slice t1a t1n t1k), (18, .bool t18)]) H r
def L1 (t5 : Option Addr) (t6 : Option Addr) (t24a : Option Addr) (t24n : Nat) (t24k : Nat) (t25 : Int) (t26 : Int) (H : Heap) (r : Value × Heap) : Prop := ∀ J, KR Try.prog good Try.f7 S6 (mat J 81 [(5, .pointer t5), (6, .pointer t6), (24, .slice t24a t24n t24k), (25, .int .i64 t25), (26, .int .i64 t26)]) H r
def L2 (t5 : Option Addr) (t6 : Option Addr) (t9 : Bool) (t24b : Nat) (t24o : Nat) (t24n : Nat) (t24k : Nat) (t25 : Int) (t26 : Int) (H : Heap) (r : Value × Heap) : Prop := ∀ J, KR Try.prog good Try.f7 S19 (mat J 81 [(5, .pointer t5), (6, .pointer t6), (9, .bool t9), (24, .slice (some ⟨t24b, t24o, none⟩) t24n t24k), (25, .int .i64 t25), (26, .int .i64 t26)]) H r
def L3 (t5 : Option Addr) (t6 : Option Addr) (t24b : Nat) (t24o : Nat) (t24n : Nat) (t24k : Nat) (t25 : Int) (t26 : Int) (t78 : Bool) (H : Heap) (r : Value × Heap) : Prop := ∀ J, KR Try.prog good Try.f7 S15 (mat J 81 [(5, .pointer t5), (6, .pointer t6), (24, .slice (some ⟨t24b, t24o, none⟩) t24n t24k), (25, .int .i64 t25), (26, .int .i64 t26), (78, .bool t78)]) H r
theorem L0_step {t0a : Option Addr} {t0n : Nat} {t0k : Nat} {t1a : Option Addr} {t1n : Nat} {t1k : Nat} {t18 : Bool} {H : Heap} {r : Value × Heap} (h :
    if t18 = true then
    (∃ (t19 : Bool) (H_1 : Heap), xC Try.prog good 19 [] H = some (.bool t19, H_1) ∧
    (r = (.bool t19, H_1)))
    else
    (∃ (t21 : Option Addr) (H_2 : Heap), xC Try.prog good 17 [.slice t0a t0n t0k] H = some (.pointer t21, H_2) ∧
    (∃ (t23 : Option Addr) (H_3 : Heap), xC Try.prog good 30 [.slice t0a t0n t0k] H_2 = some (.pointer t23, H_3) ∧
    (L1 (t21) (t23) (t1a) (t1n) (t1k) (((t1n : Nat) : Int)) 0 H_3 r)))) :
    L0 t0a t0n t0k t1a t1n t1k t18 H r := by
  intro J
  show KR _ _ _ (.code (sub B [1, 0, 1]) :: S0) _ _ _
  by_cases c3 : t18 = true
  · replace h := iteT c3 h
    refine KR.br true (by kernel_rfl) (vB (bT c3)) ?_
    refine KR.run 2 [] 81 (s' := (.reg (opsAt (sub B [1, 0, 1, 0, 0])) [0, 1] :: S2)) (by kernel_rfl) fun J => ?_
    obtain ⟨t19, H_1, q4, h⟩ := h
    refine KR.se (one_ca (by kernel_rfl) q4) ?_
    refine KR.run 2 [(4, .bool t19)] 81 (s' := (.code (sub B [1, 0, 1, 0, 1]) :: S0)) (by kernel_rfl) fun J => ?_
    exact KR.fin (by kernel_rfl) h
  · replace h := iteF c3 h
    refine KR.br false (by kernel_rfl) (vB (bF c3)) ?_
    refine KR.run 4 [(0, .slice t0a t0n t0k), (1, .slice t1a t1n t1k), (20, .slice t0a t0n t0k)] 81 (s' := (.reg (opsAt (sub B [1, 1, 0])) [1, 2, 3, 4, 5] :: S3)) (by kernel_rfl) fun J => ?_
    obtain ⟨t21, H_2, q5, h⟩ := h
    refine KR.se (one_ca (by kernel_rfl) q5) ?_
    refine KR.run 1 [(1, .slice t1a t1n t1k), (21, .pointer t21), (22, .slice t0a t0n t0k)] 81 (s' := (.reg (opsAt (sub B [1, 1, 0])) [3, 4, 5] :: S3)) (by kernel_rfl) fun J => ?_
    obtain ⟨t23, H_3, q6, h⟩ := h
    refine KR.se (one_ca (by kernel_rfl) q6) ?_
    exact KR.run 12 [(5, .pointer t21), (6, .pointer t23), (24, .slice t1a t1n t1k), (25, .int .i64 ((t1n : Nat) : Int)), (26, .int .i64 0)] 81 (s' := (.lp (sub B [1, 1, 1, 0, 1, 0, 0]) :: S5)) (by kernel_rfl) h
theorem L1_step {t5 : Option Addr} {t6 : Option Addr} {t24a : Option Addr} {t24n : Nat} {t24k : Nat} {t25 : Int} {t26 : Int} {H : Heap} {r : Value × Heap} (h :
    if t26 < t25 then
    (∃ (t24ab t24ao : Nat), t24a = some ⟨t24ab, t24ao, none⟩ ∧
    ((0 : Int) ≤ t26 ∧ t26 < ((t24n : Nat) : Int) ∧
    (∃ (t29c0 : Int) (t29c1 : Int) (t29c2 : Bool) (t29c3 : Bool) (t29c4a : Option Addr) (t29c4n : Nat) (t29c4k : Nat), ldAll H t24ab (t24ao + Int.toNat t26 * 5) [.int .u64 t29c0, .int .i64 t29c1, .bool t29c2, .bool t29c3, .slice t29c4a t29c4n t29c4k] ∧
    (∃ (H_1 : Heap), H_1 = H.push (.row [.int .u64 0, .int .i64 0, .bool false, .bool false, .slice none 0 0] true) ∧
    (∃ (H_2 : Heap), stc H_1 H.next 0 [.int .u64 t29c0, .int .i64 t29c1, .bool t29c2, .bool t29c3, .slice t29c4a t29c4n t29c4k] = some H_2 ∧
    (∃ (t41 : Bool), ldc H_2 H.next 2 = some (.bool t41) ∧
    (if t41 = true then
    (∃ (t43 : Int), ldc H_2 H.next 1 = some (.int .i64 t43) ∧
    (∃ (t46a : Option Addr) (t46n : Nat) (t46k : Nat) (H_3 : Heap), xC Try.prog good 31 [.pointer t5, .int .i64 t43] H_2 = some (.slice t46a t46n t46k, H_3) ∧
    (∃ (t47 : ByteArray), pstrb H_3 t46a t46n = some t47 ∧
    (∃ (t50a : Option Addr) (t50n : Nat) (t50k : Nat) (H_4 : Heap), xC Try.prog good 32 [.pointer t6, .int .i64 t43] H_3 = some (.slice t50a t50n t50k, H_4) ∧
    (∃ (t51 : ByteArray), pstrb H_4 t50a t50n = some t51 ∧
    (pstrb H_4 t46a t46n = some t47 ∧
    (L2 (t5) (t6) ((t47.toList == t51.toList)) (t24ab) (t24ao) (t24n) (t24k) (t25) (t26) H_4 r)))))))
    else
    (∃ (t55 : Bool), ldc H_2 H.next 3 = some (.bool t55) ∧
    (if t55 = true then
    (∃ (H_5 : Heap), xC Try.prog good 33 [.pointer t5] H_2 = some (.tuple #[], H_5) ∧
    (∃ (H_6 : Heap), xC Try.prog good 34 [.pointer t6] H_5 = some (.tuple #[], H_6) ∧
    (L2 (t5) (t6) (true) (t24ab) (t24ao) (t24n) (t24k) (t25) (t26) H_6 r)))
    else
    (∃ (t32 : Int), ldc H_2 H.next 1 = some (.int .i64 t32) ∧
    (∃ (t33 : Int) (H_7 : Heap), xC Try.prog good 18 [.pointer t5, .int .i64 t32] H_2 = some (.int .u64 t33, H_7) ∧
    (∃ (t36 : Int), ldc H_2 H.next 1 = some (.int .i64 t36) ∧
    (∃ (t37 : Int) (H_8 : Heap), xC Try.prog good 35 [.pointer t6, .int .i64 t36] H_7 = some (.int .u64 t37, H_8) ∧
    (ldc H_7 H.next 1 = some (.int .i64 t36) ∧
    (L2 (t5) (t6) ((t33 == t37)) (t24ab) (t24ao) (t24n) (t24k) (t25) (t26) H_8 r)))))))))))))))
    else
    (∃ (t80 : Bool) (H_9 : Heap), xC Try.prog good 19 [] H = some (.bool t80, H_9) ∧
    (r = (.bool t80, H_9)))) :
    L1 t5 t6 t24a t24n t24k t25 t26 H r := by
  intro J
  show KR _ _ _ (.lp (sub B [1, 1, 1, 0, 1, 0, 0]) :: S5) _ _ _
  refine KR.run 6 [(5, .pointer t5), (6, .pointer t6), (24, .slice t24a t24n t24k), (25, .int .i64 t25), (26, .int .i64 t26), (27, .bool (decide (t26 < t25)))] 81 (s' := (.code (sub B [1, 1, 1, 0, 1, 0, 0, 1, 0]) :: S7)) (by kernel_rfl) fun J => ?_
  by_cases c7 : t26 < t25
  · replace h := iteT c7 h
    refine KR.br true (by kernel_rfl) (vB (dT c7)) ?_
    obtain ⟨t24ab, t24ao, rfl, h⟩ := h
    refine KR.run 5 [(5, .pointer t5), (6, .pointer t6), (24, .slice (some ⟨t24ab, t24ao, none⟩) t24n t24k), (25, .int .i64 t25), (26, .int .i64 t26)] 81 (s' := (.reg (opsAt (sub B [1, 1, 1, 0, 1, 0, 0, 1, 1, 0, 0, 0])) [0, 1, 2, 3] :: S10)) (by kernel_rfl) fun J => ?_
    obtain ⟨q8, q8x, h⟩ := h
    refine KR.p (one_ix 5 t24ab t24ao (by kernel_rfl) q8 q8x) ?_
    obtain ⟨t29c0, t29c1, t29c2, t29c3, t29c4a, t29c4n, t29c4k, q9, h⟩ := h
    refine KR.rd (one_ldA (by kernel_rfl) q9) ?_
    obtain ⟨H_1, q10, h⟩ := h
    refine KR.mk (w := pRow [.int .u64 0, .int .i64 0, .bool false, .bool false, .slice none 0 0]) (one_al (by kernel_rfl)) q10 ?_
    obtain ⟨H_2, q11, h⟩ := h
    refine KR.se (one_st (by kernel_rfl) q11) ?_
    refine KR.run 10 [(5, .pointer t5), (6, .pointer t6), (8, .pointer (some ⟨H.next, 0, none⟩)), (9, .bool true), (24, .slice (some ⟨t24ab, t24ao, none⟩) t24n t24k), (25, .int .i64 t25), (26, .int .i64 t26), (40, .pointer (some ⟨H.next, 2, none⟩))] 81 (s' := (.reg (opsAt (sub B [1, 1, 1, 0, 1, 0, 0, 1, 1, 0, 0, 1, 1, 0, 0, 0])) [1, 2] :: S13)) (by kernel_rfl) fun J => ?_
    obtain ⟨t41, q12, h⟩ := h
    refine KR.rd (one_ld (by kernel_rfl) q12) ?_
    refine KR.run 2 [(5, .pointer t5), (6, .pointer t6), (8, .pointer (some ⟨H.next, 0, none⟩)), (9, .bool true), (24, .slice (some ⟨t24ab, t24ao, none⟩) t24n t24k), (25, .int .i64 t25), (26, .int .i64 t26), (39, .bool t41)] 81 (s' := (.code (sub B [1, 1, 1, 0, 1, 0, 0, 1, 1, 0, 0, 1, 1, 0, 0, 1]) :: S12)) (by kernel_rfl) fun J => ?_
    by_cases c13 : t41 = true
    · replace h := iteT c13 h
      refine KR.br true (by kernel_rfl) (vB (bT c13)) ?_
      refine KR.run 3 [(5, .pointer t5), (6, .pointer t6), (24, .slice (some ⟨t24ab, t24ao, none⟩) t24n t24k), (25, .int .i64 t25), (26, .int .i64 t26), (42, .pointer (some ⟨H.next, 1, none⟩))] 81 (s' := (.reg (opsAt (sub B [1, 1, 1, 0, 1, 0, 0, 1, 1, 0, 0, 1, 1, 0, 0, 1, 0, 0])) [1, 2] :: S14)) (by kernel_rfl) fun J => ?_
      obtain ⟨t43, q14, h⟩ := h
      refine KR.rd (one_ld (by kernel_rfl) q14) ?_
      refine KR.run 2 [(5, .pointer t5), (6, .pointer t6), (10, .int .i64 t43), (24, .slice (some ⟨t24ab, t24ao, none⟩) t24n t24k), (25, .int .i64 t25), (26, .int .i64 t26)] 81 (s' := (.code (sub B [1, 1, 1, 0, 1, 0, 0, 1, 1, 0, 0, 1, 1, 0, 0, 1, 0, 1]) :: S12)) (by kernel_rfl) fun J => ?_
      refine KE.start H_2 (by kernel_rfl) (by kernel_rfl) ?_
      refine KE.run 2 [(5, .pointer t5), (6, .pointer t6), (10, .int .i64 t43), (24, .slice (some ⟨t24ab, t24ao, none⟩) t24n t24k), (25, .int .i64 t25), (26, .int .i64 t26), (44, .pointer t5), (45, .int .i64 t43)] 81 2 (by kernel_rfl) fun J => ?_
      obtain ⟨t46a, t46n, t46k, H_3, q15, h⟩ := h
      refine KE.se (one_ca (by kernel_rfl) q15) (by kernel_rfl) ?_
      obtain ⟨t47, q16, h⟩ := h
      refine KE.rdF (one_str (by kernel_rfl) q16) (by kernel_rfl) ?_
      refine KE.run 2 [(5, .pointer t5), (6, .pointer t6), (24, .slice (some ⟨t24ab, t24ao, none⟩) t24n t24k), (25, .int .i64 t25), (26, .int .i64 t26), (47, .string t47), (48, .pointer t6), (49, .int .i64 t43)] 81 6 (by kernel_rfl) fun J => ?_
      obtain ⟨t50a, t50n, t50k, H_4, q17, h⟩ := h
      refine KE.se (one_ca (by kernel_rfl) q17) (by kernel_rfl) ?_
      obtain ⟨t51, q18, h⟩ := h
      refine KE.rdN (one_str (by kernel_rfl) q18) (by kernel_rfl) ?_
      refine KE.run 2 [(5, .pointer t5), (6, .pointer t6), (9, .bool (t47.toList == t51.toList)), (24, .slice (some ⟨t24ab, t24ao, none⟩) t24n t24k), (25, .int .i64 t25), (26, .int .i64 t26)] 81 10 (by kernel_rfl) fun J => ?_
      obtain ⟨q19, h⟩ := h
      refine KE.fin (H' := H_4) (by kernel_rfl) (rdsS (rfl) (rd_ok (Hs := [H_4]) (by kernel_rfl) (by kernel_rfl) ⟨one_str (by kernel_rfl) q19, trivial⟩)) (by kernel_rfl) ?_
      exact KR.run 2 [(5, .pointer t5), (6, .pointer t6), (9, .bool (t47.toList == t51.toList)), (24, .slice (some ⟨t24ab, t24ao, none⟩) t24n t24k), (25, .int .i64 t25), (26, .int .i64 t26)] 81 (s' := (.code (sub B [1, 1, 1, 0, 1, 0, 0, 1, 1, 0, 0, 1, 1, 1, 0]) :: S15)) (by kernel_rfl) h
    · replace h := iteF c13 h
      refine KR.br false (by kernel_rfl) (vB (bF c13)) ?_
      refine KR.run 3 [(5, .pointer t5), (6, .pointer t6), (8, .pointer (some ⟨H.next, 0, none⟩)), (9, .bool true), (24, .slice (some ⟨t24ab, t24ao, none⟩) t24n t24k), (25, .int .i64 t25), (26, .int .i64 t26), (54, .pointer (some ⟨H.next, 3, none⟩))] 81 (s' := (.reg (opsAt (sub B [1, 1, 1, 0, 1, 0, 0, 1, 1, 0, 0, 1, 1, 0, 0, 1, 1, 0])) [1, 2] :: S16)) (by kernel_rfl) fun J => ?_
      obtain ⟨t55, q20, h⟩ := h
      refine KR.rd (one_ld (by kernel_rfl) q20) ?_
      refine KR.run 2 [(5, .pointer t5), (6, .pointer t6), (8, .pointer (some ⟨H.next, 0, none⟩)), (9, .bool true), (24, .slice (some ⟨t24ab, t24ao, none⟩) t24n t24k), (25, .int .i64 t25), (26, .int .i64 t26), (53, .bool t55)] 81 (s' := (.code (sub B [1, 1, 1, 0, 1, 0, 0, 1, 1, 0, 0, 1, 1, 0, 0, 1, 1, 1]) :: S12)) (by kernel_rfl) fun J => ?_
      by_cases c21 : t55 = true
      · replace h := iteT c21 h
        refine KR.br true (by kernel_rfl) (vB (bT c21)) ?_
        refine KR.run 3 [(5, .pointer t5), (6, .pointer t6), (9, .bool true), (24, .slice (some ⟨t24ab, t24ao, none⟩) t24n t24k), (25, .int .i64 t25), (26, .int .i64 t26), (56, .pointer t5)] 81 (s' := (.reg (opsAt (sub B [1, 1, 1, 0, 1, 0, 0, 1, 1, 0, 0, 1, 1, 0, 0, 1, 1, 1, 0, 0])) [1] :: S17)) (by kernel_rfl) fun J => ?_
        obtain ⟨H_5, q22, h⟩ := h
        refine KR.se (one_ca (by kernel_rfl) q22) ?_
        refine KR.run 3 [(5, .pointer t5), (6, .pointer t6), (9, .bool true), (24, .slice (some ⟨t24ab, t24ao, none⟩) t24n t24k), (25, .int .i64 t25), (26, .int .i64 t26), (58, .pointer t6)] 81 (s' := (.reg (opsAt (sub B [1, 1, 1, 0, 1, 0, 0, 1, 1, 0, 0, 1, 1, 0, 0, 1, 1, 1, 0, 1])) [1] :: S12)) (by kernel_rfl) fun J => ?_
        obtain ⟨H_6, q23, h⟩ := h
        refine KR.se (one_ca (by kernel_rfl) q23) ?_
        exact KR.run 3 [(5, .pointer t5), (6, .pointer t6), (9, .bool true), (24, .slice (some ⟨t24ab, t24ao, none⟩) t24n t24k), (25, .int .i64 t25), (26, .int .i64 t26)] 81 (s' := (.code (sub B [1, 1, 1, 0, 1, 0, 0, 1, 1, 0, 0, 1, 1, 1, 0]) :: S15)) (by kernel_rfl) h
      · replace h := iteF c21 h
        refine KR.br false (by kernel_rfl) (vB (bF c21)) ?_
        refine KE.start H_2 (by kernel_rfl) (by kernel_rfl) ?_
        refine KE.run 2 [(5, .pointer t5), (6, .pointer t6), (8, .pointer (some ⟨H.next, 0, none⟩)), (24, .slice (some ⟨t24ab, t24ao, none⟩) t24n t24k), (25, .int .i64 t25), (26, .int .i64 t26), (30, .pointer t5), (31, .pointer (some ⟨H.next, 1, none⟩))] 81 2 (by kernel_rfl) fun J => ?_
        obtain ⟨t32, q24, h⟩ := h
        refine KE.rdN (one_ld (by kernel_rfl) q24) (by kernel_rfl) ?_
        obtain ⟨t33, H_7, q25, h⟩ := h
        refine KE.se (one_ca (by kernel_rfl) q25) (by kernel_rfl) ?_
        refine KE.run 2 [(5, .pointer t5), (6, .pointer t6), (24, .slice (some ⟨t24ab, t24ao, none⟩) t24n t24k), (25, .int .i64 t25), (26, .int .i64 t26), (33, .int .u64 t33), (34, .pointer t6), (35, .pointer (some ⟨H.next, 1, none⟩))] 81 6 (by kernel_rfl) fun J => ?_
        obtain ⟨t36, q26, h⟩ := h
        refine KE.rdF (one_ld (by kernel_rfl) q26) (by kernel_rfl) ?_
        obtain ⟨t37, H_8, q27, h⟩ := h
        refine KE.se (one_ca (by kernel_rfl) q27) (by kernel_rfl) ?_
        refine KE.run 2 [(5, .pointer t5), (6, .pointer t6), (9, .bool (t33 == t37)), (24, .slice (some ⟨t24ab, t24ao, none⟩) t24n t24k), (25, .int .i64 t25), (26, .int .i64 t26)] 81 10 (by kernel_rfl) fun J => ?_
        obtain ⟨q28, h⟩ := h
        refine KE.fin (H' := H_8) (by kernel_rfl) (rdsS (rfl) (rd_ok (Hs := [H_7]) (by kernel_rfl) (by kernel_rfl) ⟨one_ld (by kernel_rfl) q28, trivial⟩)) (by kernel_rfl) ?_
        exact KR.run 2 [(5, .pointer t5), (6, .pointer t6), (9, .bool (t33 == t37)), (24, .slice (some ⟨t24ab, t24ao, none⟩) t24n t24k), (25, .int .i64 t25), (26, .int .i64 t26)] 81 (s' := (.code (sub B [1, 1, 1, 0, 1, 0, 0, 1, 1, 0, 0, 1, 1, 1, 0]) :: S15)) (by kernel_rfl) h
  · replace h := iteF c7 h
    refine KR.br false (by kernel_rfl) (vB (dF c7)) ?_
    refine KR.run 3 [] 81 (s' := (.reg (opsAt (sub B [1, 1, 1, 1, 0])) [0, 1] :: S18)) (by kernel_rfl) fun J => ?_
    obtain ⟨t80, H_9, q29, h⟩ := h
    refine KR.se (one_ca (by kernel_rfl) q29) ?_
    refine KR.run 2 [(4, .bool t80)] 81 (s' := (.code (sub B [1, 1, 1, 1, 1]) :: [])) (by kernel_rfl) fun J => ?_
    exact KR.fin (by kernel_rfl) h
theorem L2_step {t5 : Option Addr} {t6 : Option Addr} {t9 : Bool} {t24b : Nat} {t24o : Nat} {t24n : Nat} {t24k : Nat} {t25 : Int} {t26 : Int} {H : Heap} {r : Value × Heap} (h :
    if t9 = true then
    (∃ (t64 : Int) (H_1 : Heap), xC Try.prog good 36 [.pointer t5] H = some (.int .i64 t64, H_1) ∧
    (∃ (t6b t6o : Nat), t6 = some ⟨t6b, t6o, none⟩ ∧
    (∃ (t68a : Option Addr) (t68n : Nat) (t68k : Nat), ldc H t6b t6o = some (.slice t68a t68n t68k) ∧
    (if t64 = ((t68n : Nat) : Int) then
    (∃ (t74 : Int) (H_2 : Heap), xC Try.prog good 37 [.pointer t5] H_1 = some (.int .i64 t74, H_2) ∧
    (∃ (t76 : Int) (H_3 : Heap), xC Try.prog good 38 [.pointer (some ⟨t6b, t6o, none⟩)] H_2 = some (.int .i64 t76, H_3) ∧
    (ldc H_1 t6b t6o = some (.slice t68a t68n t68k) ∧
    (L3 (t5) ((some ⟨t6b, t6o, none⟩)) (t24b) (t24o) (t24n) (t24k) (t25) (t26) ((!(t74 == t76))) H_3 r))))
    else
    (ldc H_1 t6b t6o = some (.slice t68a t68n t68k) ∧
    (L3 (t5) ((some ⟨t6b, t6o, none⟩)) (t24b) (t24o) (t24n) (t24k) (t25) (t26) (true) H_1 r))))))
    else
    ((L3 (t5) (t6) (t24b) (t24o) (t24n) (t24k) (t25) (t26) (true) H r))) :
    L2 t5 t6 t9 t24b t24o t24n t24k t25 t26 H r := by
  intro J
  show KR _ _ _ (.code (sub B [1, 1, 1, 0, 1, 0, 0, 1, 1, 0, 0, 1, 1, 1, 0]) :: S15) _ _ _
  refine KE.start H (by kernel_rfl) (by kernel_rfl) ?_
  refine KE.run 3 [(5, .pointer t5), (6, .pointer t6), (24, .slice (some ⟨t24b, t24o, none⟩) t24n t24k), (25, .int .i64 t25), (26, .int .i64 t26), (62, .bool (!t9))] 81 3 (by kernel_rfl) fun J => ?_
  by_cases c30 : t9 = true
  · replace h := iteT c30 h
    refine KE.setV 62 (by kernel_rfl) (nB (bT c30)) ?_
    refine KE.run 1 [(5, .pointer t5), (6, .pointer t6), (24, .slice (some ⟨t24b, t24o, none⟩) t24n t24k), (25, .int .i64 t25), (26, .int .i64 t26), (62, .bool false), (63, .pointer t5)] 81 4 (by kernel_rfl) fun J => ?_
    obtain ⟨t64, H_1, q31, h⟩ := h
    refine KE.se (one_ca (by kernel_rfl) q31) (by kernel_rfl) ?_
    obtain ⟨t6b, t6o, rfl, h⟩ := h
    refine KE.run 3 [(5, .pointer t5), (6, .pointer (some ⟨t6b, t6o, none⟩)), (24, .slice (some ⟨t24b, t24o, none⟩) t24n t24k), (25, .int .i64 t25), (26, .int .i64 t26), (62, .bool false), (64, .int .i64 t64), (67, .pointer (some ⟨t6b, t6o, none⟩))] 81 8 (by kernel_rfl) fun J => ?_
    obtain ⟨t68a, t68n, t68k, q32, h⟩ := h
    refine KE.rdF (one_ld (by kernel_rfl) q32) (by kernel_rfl) ?_
    refine KE.run 4 [(5, .pointer t5), (6, .pointer (some ⟨t6b, t6o, none⟩)), (24, .slice (some ⟨t24b, t24o, none⟩) t24n t24k), (25, .int .i64 t25), (26, .int .i64 t26), (72, .bool (!(t64 == ((t68n : Nat) : Int))))] 81 13 (by kernel_rfl) fun J => ?_
    by_cases c33 : t64 = ((t68n : Nat) : Int)
    · replace h := iteT c33 h
      refine KE.setV 72 (by kernel_rfl) (nB (eT c33)) ?_
      refine KE.run 1 [(5, .pointer t5), (6, .pointer (some ⟨t6b, t6o, none⟩)), (24, .slice (some ⟨t24b, t24o, none⟩) t24n t24k), (25, .int .i64 t25), (26, .int .i64 t26), (72, .bool false), (73, .pointer t5)] 81 14 (by kernel_rfl) fun J => ?_
      obtain ⟨t74, H_2, q34, h⟩ := h
      refine KE.se (one_ca (by kernel_rfl) q34) (by kernel_rfl) ?_
      refine KE.run 1 [(5, .pointer t5), (6, .pointer (some ⟨t6b, t6o, none⟩)), (24, .slice (some ⟨t24b, t24o, none⟩) t24n t24k), (25, .int .i64 t25), (26, .int .i64 t26), (72, .bool false), (74, .int .i64 t74), (75, .pointer (some ⟨t6b, t6o, none⟩))] 81 16 (by kernel_rfl) fun J => ?_
      obtain ⟨t76, H_3, q35, h⟩ := h
      refine KE.se (one_ca (by kernel_rfl) q35) (by kernel_rfl) ?_
      refine KE.run 2 [(5, .pointer t5), (6, .pointer (some ⟨t6b, t6o, none⟩)), (24, .slice (some ⟨t24b, t24o, none⟩) t24n t24k), (25, .int .i64 t25), (26, .int .i64 t26), (78, .bool (!(t74 == t76)))] 81 19 (by kernel_rfl) fun J => ?_
      obtain ⟨q36, h⟩ := h
      refine KE.fin (H' := H_3) (by kernel_rfl) (rdsS (rfl) (rd_ok (Hs := [H_1]) (by kernel_rfl) (by kernel_rfl) ⟨one_ld (by kernel_rfl) q36, trivial⟩)) (by kernel_rfl) ?_
      exact KR.run 0 [(5, .pointer t5), (6, .pointer (some ⟨t6b, t6o, none⟩)), (24, .slice (some ⟨t24b, t24o, none⟩) t24n t24k), (25, .int .i64 t25), (26, .int .i64 t26), (78, .bool (!(t74 == t76)))] 81 (s' := (.code (sub B [1, 1, 1, 0, 1, 0, 0, 1, 1, 0, 0, 1, 1, 1, 1]) :: S9)) (by kernel_rfl) h
    · replace h := iteF c33 h
      refine KE.setV 72 (by kernel_rfl) (nB (eF c33)) ?_
      refine KE.run 1 [(5, .pointer t5), (6, .pointer (some ⟨t6b, t6o, none⟩)), (24, .slice (some ⟨t24b, t24o, none⟩) t24n t24k), (25, .int .i64 t25), (26, .int .i64 t26), (72, .bool true), (73, undef)] 81 14 (by kernel_rfl) fun J => ?_
      refine KE.no (Gc := H_1) (by kernel_rfl) (by kernel_rfl) (by kernel_rfl) ?_
      refine KE.run 1 [(5, .pointer t5), (6, .pointer (some ⟨t6b, t6o, none⟩)), (24, .slice (some ⟨t24b, t24o, none⟩) t24n t24k), (25, .int .i64 t25), (26, .int .i64 t26), (72, .bool true), (74, undef), (75, undef)] 81 16 (by kernel_rfl) fun J => ?_
      refine KE.no (Gc := H_1) (by kernel_rfl) (by kernel_rfl) (by kernel_rfl) ?_
      refine KE.run 2 [(5, .pointer t5), (6, .pointer (some ⟨t6b, t6o, none⟩)), (24, .slice (some ⟨t24b, t24o, none⟩) t24n t24k), (25, .int .i64 t25), (26, .int .i64 t26), (78, .bool true)] 81 19 (by kernel_rfl) fun J => ?_
      obtain ⟨q37, h⟩ := h
      refine KE.fin (H' := H_1) (by kernel_rfl) (rdsS (rfl) (rd_ok (Hs := [H_1]) (by kernel_rfl) (by kernel_rfl) ⟨one_ld (by kernel_rfl) q37, trivial⟩)) (by kernel_rfl) ?_
      exact KR.run 0 [(5, .pointer t5), (6, .pointer (some ⟨t6b, t6o, none⟩)), (24, .slice (some ⟨t24b, t24o, none⟩) t24n t24k), (25, .int .i64 t25), (26, .int .i64 t26), (78, .bool true)] 81 (s' := (.code (sub B [1, 1, 1, 0, 1, 0, 0, 1, 1, 0, 0, 1, 1, 1, 1]) :: S9)) (by kernel_rfl) h
  · replace h := iteF c30 h
    refine KE.setV 62 (by kernel_rfl) (nB (bF c30)) ?_
    refine KE.run 1 [(5, .pointer t5), (6, .pointer t6), (24, .slice (some ⟨t24b, t24o, none⟩) t24n t24k), (25, .int .i64 t25), (26, .int .i64 t26), (62, .bool true), (63, undef)] 81 4 (by kernel_rfl) fun J => ?_
    refine KE.no (Gc := H) (by kernel_rfl) (by kernel_rfl) (by kernel_rfl) ?_
    refine KE.run 9 [(5, .pointer t5), (6, .pointer t6), (24, .slice (some ⟨t24b, t24o, none⟩) t24n t24k), (25, .int .i64 t25), (26, .int .i64 t26), (72, .bool true), (73, undef)] 81 14 (by kernel_rfl) fun J => ?_
    refine KE.no (Gc := H) (by kernel_rfl) (by kernel_rfl) (by kernel_rfl) ?_
    refine KE.run 1 [(5, .pointer t5), (6, .pointer t6), (24, .slice (some ⟨t24b, t24o, none⟩) t24n t24k), (25, .int .i64 t25), (26, .int .i64 t26), (72, .bool true), (74, undef), (75, undef)] 81 16 (by kernel_rfl) fun J => ?_
    refine KE.no (Gc := H) (by kernel_rfl) (by kernel_rfl) (by kernel_rfl) ?_
    refine KE.run 2 [(5, .pointer t5), (6, .pointer t6), (24, .slice (some ⟨t24b, t24o, none⟩) t24n t24k), (25, .int .i64 t25), (26, .int .i64 t26), (78, .bool true)] 81 19 (by kernel_rfl) fun J => ?_
    refine KE.fin (H' := H) (by kernel_rfl) (rfl) (by kernel_rfl) ?_
    exact KR.run 0 [(5, .pointer t5), (6, .pointer t6), (24, .slice (some ⟨t24b, t24o, none⟩) t24n t24k), (25, .int .i64 t25), (26, .int .i64 t26), (78, .bool true)] 81 (s' := (.code (sub B [1, 1, 1, 0, 1, 0, 0, 1, 1, 0, 0, 1, 1, 1, 1]) :: S9)) (by kernel_rfl) h
theorem L3_step {t5 : Option Addr} {t6 : Option Addr} {t24b : Nat} {t24o : Nat} {t24n : Nat} {t24k : Nat} {t25 : Int} {t26 : Int} {t78 : Bool} {H : Heap} {r : Value × Heap} (h :
    if t78 = true then
    (r = (.bool false, H))
    else
    (L1 (t5) (t6) ((some ⟨t24b, t24o, none⟩)) (t24n) (t24k) (t25) ((IntKind.wrap .i64 (t26 + 1))) H r)) :
    L3 t5 t6 t24b t24o t24n t24k t25 t26 t78 H r := by
  intro J
  show KR _ _ _ (.code (sub B [1, 1, 1, 0, 1, 0, 0, 1, 1, 0, 0, 1, 1, 1, 1]) :: S9) _ _ _
  by_cases c38 : t78 = true
  · replace h := iteT c38 h
    refine KR.br true (by kernel_rfl) (vB (bT c38)) ?_
    refine KR.run 4 [(4, .bool false)] 81 (s' := (.code (sub B [1, 1, 1, 0, 1, 0, 0, 1, 1, 0, 0, 1, 1, 1, 1, 0, 1]) :: S9)) (by kernel_rfl) fun J => ?_
    exact KR.fin (by kernel_rfl) h
  · replace h := iteF c38 h
    refine KR.br false (by kernel_rfl) (vB (bF c38)) ?_
    exact KR.run 6 [(5, .pointer t5), (6, .pointer t6), (24, .slice (some ⟨t24b, t24o, none⟩) t24n t24k), (25, .int .i64 t25), (26, .int .i64 (IntKind.wrap .i64 (t26 + 1)))] 81 (s' := (.lp (sub B [1, 1, 1, 0, 1, 0, 0]) :: S5)) (by kernel_rfl) h
theorem call {a0a : Option Addr} {a0n : Nat} {a0k : Nat} {a1a : Option Addr} {a1n : Nat} {a1k : Nat} {H : Heap} {r : Value × Heap} (h :
    ∃ (t12 : Bool) (H_1 : Heap), xC Try.prog good 29 [.slice a1a a1n a1k] H = some (.bool t12, H_1) ∧
    (if t12 = true then
    (L0 (a0a) (a0n) (a0k) (a1a) (a1n) (a1k) ((decide (((a0n : Nat) : Int) > 500))) H_1 r)
    else
    (L0 (a0a) (a0n) (a0k) (a1a) (a1n) (a1k) (true) H_1 r))) :
    xC Try.prog good 7 [.slice a0a a0n a0k, .slice a1a a1n a1k] H = some r := by
  refine KR.enter (fn := Try.f7) (c := B) (by kernel_rfl) (by kernel_rfl) ?_
  refine KR.run 8 [(0, .slice a0a a0n a0k), (1, .slice a1a a1n a1k), (11, .slice a1a a1n a1k)] 81 (s' := (.reg (opsAt (sub B [1, 0, 0])) [1, 2, 3, 4, 5, 6, 7] :: S1)) (by kernel_rfl) fun J => ?_
  obtain ⟨t12, H_1, q1, h⟩ := h
  refine KR.se (one_ca (by kernel_rfl) q1) ?_
  refine KR.run 2 [(0, .slice a0a a0n a0k), (1, .slice a1a a1n a1k), (14, .bool (!t12))] 81 (s' := (.reg (opsAt (sub B [1, 0, 0])) [4, 5, 6, 7] :: S1)) (by kernel_rfl) fun J => ?_
  by_cases c2 : t12 = true
  · replace h := iteT c2 h
    refine KR.setV 14 (by kernel_rfl) (nB (bT c2)) ?_
    exact KR.run 5 [(0, .slice a0a a0n a0k), (1, .slice a1a a1n a1k), (18, .bool (decide (((a0n : Nat) : Int) > 500)))] 81 (s' := (.code (sub B [1, 0, 1]) :: S0)) (by kernel_rfl) h
  · replace h := iteF c2 h
    refine KR.setV 14 (by kernel_rfl) (nB (bF c2)) ?_
    exact KR.run 5 [(0, .slice a0a a0n a0k), (1, .slice a1a a1n a1k), (18, .bool true)] 81 (s' := (.code (sub B [1, 0, 1]) :: S0)) (by kernel_rfl) h
end F7
/-! #### 8 campanile/campanilelaw3.BitsShort -/
namespace F8
noncomputable def B : Code := bodyOf Try.f8
noncomputable def S0 : List It := (.code (sub B [1, 1]) :: [])
noncomputable def S2 : List It := (.code (sub B [1, 1, 1]) :: [])
noncomputable def S3 : List It := (.code (sub B [1, 1, 1, 1]) :: [])
noncomputable def S4 : List It := (.code (sub B [1, 1, 1, 1, 1]) :: [])
noncomputable def S6 : List It := (.code (sub B [1, 1, 1, 1, 1, 1]) :: [])
noncomputable def S14 : List It := (.code (sub B [1, 1, 1, 1, 1, 1, 1]) :: [])
noncomputable def S17 : List It := (.code (sub B [1, 1, 1, 1, 1, 1, 1, 1]) :: [])
noncomputable def S18 : List It := (.code (sub B [1, 1, 1, 1, 1, 1, 1, 1, 1]) :: [])
noncomputable def S19 : List It := (.code (sub B [1, 1, 1, 1, 1, 1, 1, 1, 1, 1]) :: [])
noncomputable def S20 : List It := (.code (sub B [1, 1, 1, 1, 1, 1, 1, 1, 1, 1, 1]) :: [])
noncomputable def S22 : List It := (.code (sub B [1, 1, 1, 1, 1, 1, 1, 1, 1, 1, 1, 1]) :: [])
noncomputable def S1 : List It := (.code (sub B [1, 0, 1, 0, 1]) :: S0)
noncomputable def S5 : List It := (.code (sub B [1, 1, 1, 1, 0, 1]) :: S4)
noncomputable def S7 : List It := (.blk 0 :: S6)
noncomputable def S21 : List It := (.code (sub B [1, 1, 1, 1, 1, 1, 1, 1, 1, 1, 0, 1]) :: S20)
noncomputable def S23 : List It := (.code (sub B [1, 1, 1, 1, 1, 1, 1, 1, 1, 1, 0, 1, 0, 1]) :: S20)
noncomputable def S24 : List It := (.reg (opsAt (sub B [1, 1, 1, 1, 1, 1, 0])) [0, 1, 2, 3, 4, 5] :: S14)
noncomputable def S8 : List It := (.lp (sub B [1, 1, 1, 1, 1, 0, 1, 0, 0]) :: S7)
noncomputable def S9 : List It := (.code (sub B [1, 1, 1, 1, 1, 0, 1, 0, 0, 1, 1]) :: S8)
noncomputable def S10 : List It := (.code (sub B [1, 1, 1, 1, 1, 0, 1, 0, 0, 1, 1, 1]) :: S8)
noncomputable def S11 : List It := (.blk 1 :: S10)
noncomputable def S12 : List It := (.code (sub B [1, 1, 1, 1, 1, 0, 1, 0, 0, 1, 1, 0, 0, 1]) :: S11)
noncomputable def S13 : List It := (.code (sub B [1, 1, 1, 1, 1, 0, 1, 0, 0, 1, 1, 0, 0, 1, 1]) :: S11)
noncomputable def S15 : List It := (.code (sub B [1, 1, 1, 1, 1, 0, 1, 0, 0, 1, 1, 0, 0, 1, 1, 1]) :: S11)
noncomputable def S16 : List It := (.code (sub B [1, 1, 1, 1, 1, 0, 1, 0, 0, 1, 1, 0, 0, 1, 1, 1, 1]) :: S11)
def L0 (t1a : Option Addr) (t1n : Nat) (t1k : Nat) (t2 : Int) (t3 : Int) (t9 : Option Addr) (t31 : Bool) (H : Heap) (r : Value × Heap) : Prop := ∀ J, KR Try.prog good Try.f8 S5 (mat J 115 [(1, .slice t1a t1n t1k), (2, .int .u8 t2), (3, .int .i64 t3), (9, .pointer t9), (31, .bool t31)]) H r
def L1 (t2 : Int) (t3 : Int) (t9 : Option Addr) (t32a : Option Addr) (t32n : Nat) (t32k : Nat) (t33 : Int) (t34 : Int) (H : Heap) (r : Value × Heap) : Prop := ∀ J, KR Try.prog good Try.f8 S8 (mat J 115 [(2, .int .u8 t2), (3, .int .i64 t3), (9, .pointer t9), (32, .slice t32a t32n t32k), (33, .int .i64 t33), (34, .int .i64 t34)]) H r
def L2 (t2 : Int) (t3 : Int) (H : Heap) (r : Value × Heap) : Prop := ∀ J, KR Try.prog good Try.f8 S24 (mat J 115 [(2, .int .u8 t2), (3, .int .i64 t3)]) H r
def L3 (t2 : Int) (t3 : Int) (t9 : Option Addr) (t32b : Nat) (t32o : Nat) (t32n : Nat) (t32k : Nat) (t33 : Int) (t34 : Int) (t63 : Bool) (H : Heap) (r : Value × Heap) : Prop := ∀ J, KR Try.prog good Try.f8 S16 (mat J 115 [(2, .int .u8 t2), (3, .int .i64 t3), (9, .pointer t9), (32, .slice (some ⟨t32b, t32o, none⟩) t32n t32k), (33, .int .i64 t33), (34, .int .i64 t34), (63, .bool t63)]) H r
theorem L0_step {t1a : Option Addr} {t1n : Nat} {t1k : Nat} {t2 : Int} {t3 : Int} {t9 : Option Addr} {t31 : Bool} {H : Heap} {r : Value × Heap} (h :
    if t31 = true then
    (r = (.bool false, H))
    else
    (L1 (t2) (t3) (t9) (t1a) (t1n) (t1k) (((t1n : Nat) : Int)) 0 H r)) :
    L0 t1a t1n t1k t2 t3 t9 t31 H r := by
  intro J
  show KR _ _ _ (.code (sub B [1, 1, 1, 1, 0, 1]) :: S4) _ _ _
  by_cases c8 : t31 = true
  · replace h := iteT c8 h
    refine KR.br true (by kernel_rfl) (vB (bT c8)) ?_
    refine KR.run 4 [(8, .bool false)] 115 (s' := (.code (sub B [1, 1, 1, 1, 0, 1, 0, 1]) :: S4)) (by kernel_rfl) fun J => ?_
    exact KR.fin (by kernel_rfl) h
  · replace h := iteF c8 h
    refine KR.br false (by kernel_rfl) (vB (bF c8)) ?_
    exact KR.run 10 [(2, .int .u8 t2), (3, .int .i64 t3), (9, .pointer t9), (32, .slice t1a t1n t1k), (33, .int .i64 ((t1n : Nat) : Int)), (34, .int .i64 0)] 115 (s' := (.lp (sub B [1, 1, 1, 1, 1, 0, 1, 0, 0]) :: S7)) (by kernel_rfl) h
theorem L1_step {t2 : Int} {t3 : Int} {t9 : Option Addr} {t32a : Option Addr} {t32n : Nat} {t32k : Nat} {t33 : Int} {t34 : Int} {H : Heap} {r : Value × Heap} (h :
    if t34 < t33 then
    (∃ (t32ab t32ao : Nat), t32a = some ⟨t32ab, t32ao, none⟩ ∧
    ((0 : Int) ≤ t34 ∧ t34 < ((t32n : Nat) : Int) ∧
    (∃ (t38 : Int), ldc H t32ab (t32ao + Int.toNat t34 * 1) = some (.int .i64 t38) ∧
    (if t34 ≥ 20 then
    (L2 (t2) (t3) H r)
    else
    (∃ (H_1 : Heap), xC Try.prog good 33 [.pointer t9] H = some (.tuple #[], H_1) ∧
    (∃ (t45 : Int) (H_2 : Heap), xC Try.prog good 18 [.pointer t9, .int .i64 t38] H_1 = some (.int .u64 t45, H_2) ∧
    (if t45 = 0 then
    (∃ (t50a : Option Addr) (t50n : Nat) (t50k : Nat) (H_3 : Heap), xC Try.prog good 31 [.pointer t9, .int .i64 t38] H_2 = some (.slice t50a t50n t50k, H_3) ∧
    (if ((t50n : Nat) : Int) = 0 then
    (∃ (t56 : Int) (H_4 : Heap), xC Try.prog good 36 [.pointer t9] H_3 = some (.int .i64 t56, H_4) ∧
    (if t56 = 0 then
    (∃ (t61 : Int) (H_5 : Heap), xC Try.prog good 37 [.pointer t9] H_4 = some (.int .i64 t61, H_5) ∧
    (L3 (t2) (t3) (t9) (t32ab) (t32ao) (t32n) (t32k) (t33) (t34) ((!(t61 == 2))) H_5 r))
    else
    (L3 (t2) (t3) (t9) (t32ab) (t32ao) (t32n) (t32k) (t33) (t34) (true) H_4 r)))
    else
    (L3 (t2) (t3) (t9) (t32ab) (t32ao) (t32n) (t32k) (t33) (t34) (true) H_3 r)))
    else
    (L3 (t2) (t3) (t9) (t32ab) (t32ao) (t32n) (t32k) (t33) (t34) (true) H_2 r))))))))
    else
    (L2 (t2) (t3) H r)) :
    L1 t2 t3 t9 t32a t32n t32k t33 t34 H r := by
  intro J
  show KR _ _ _ (.lp (sub B [1, 1, 1, 1, 1, 0, 1, 0, 0]) :: S7) _ _ _
  refine KR.run 6 [(2, .int .u8 t2), (3, .int .i64 t3), (9, .pointer t9), (32, .slice t32a t32n t32k), (33, .int .i64 t33), (34, .int .i64 t34), (35, .bool (decide (t34 < t33)))] 115 (s' := (.code (sub B [1, 1, 1, 1, 1, 0, 1, 0, 0, 1, 0]) :: S9)) (by kernel_rfl) fun J => ?_
  by_cases c9 : t34 < t33
  · replace h := iteT c9 h
    refine KR.br true (by kernel_rfl) (vB (dT c9)) ?_
    obtain ⟨t32ab, t32ao, rfl, h⟩ := h
    refine KR.run 6 [(2, .int .u8 t2), (3, .int .i64 t3), (9, .pointer t9), (32, .slice (some ⟨t32ab, t32ao, none⟩) t32n t32k), (33, .int .i64 t33), (34, .int .i64 t34), (36, .int .i64 t34)] 115 (s' := (.reg (opsAt (sub B [1, 1, 1, 1, 1, 0, 1, 0, 0, 1, 1, 0, 0, 0])) [1, 2, 3, 4] :: S12)) (by kernel_rfl) fun J => ?_
    obtain ⟨q10, q10x, h⟩ := h
    refine KR.p (one_ix 1 t32ab t32ao (by kernel_rfl) q10 q10x) ?_
    obtain ⟨t38, q11, h⟩ := h
    refine KR.rd (one_ld (by kernel_rfl) q11) ?_
    refine KR.run 9 [(2, .int .u8 t2), (3, .int .i64 t3), (9, .pointer t9), (11, .int .i64 t38), (32, .slice (some ⟨t32ab, t32ao, none⟩) t32n t32k), (33, .int .i64 t33), (34, .int .i64 t34), (40, .bool (decide (t34 ≥ 20)))] 115 (s' := (.code (sub B [1, 1, 1, 1, 1, 0, 1, 0, 0, 1, 1, 0, 0, 1, 0, 1]) :: S13)) (by kernel_rfl) fun J => ?_
    by_cases c12 : t34 ≥ 20
    · replace h := iteT c12 h
      refine KR.br true (by kernel_rfl) (vB (dT c12)) ?_
      exact KR.run 3 [(2, .int .u8 t2), (3, .int .i64 t3)] 115 (s' := (.reg (opsAt (sub B [1, 1, 1, 1, 1, 1, 0])) [0, 1, 2, 3, 4, 5] :: S14)) (by kernel_rfl) h
    · replace h := iteF c12 h
      refine KR.br false (by kernel_rfl) (vB (dF c12)) ?_
      refine KR.run 4 [(2, .int .u8 t2), (3, .int .i64 t3), (9, .pointer t9), (11, .int .i64 t38), (32, .slice (some ⟨t32ab, t32ao, none⟩) t32n t32k), (33, .int .i64 t33), (34, .int .i64 t34), (41, .pointer t9)] 115 (s' := (.reg (opsAt (sub B [1, 1, 1, 1, 1, 0, 1, 0, 0, 1, 1, 0, 0, 1, 1, 0])) [1] :: S15)) (by kernel_rfl) fun J => ?_
      obtain ⟨H_1, q13, h⟩ := h
      refine KR.se (one_ca (by kernel_rfl) q13) ?_
      refine KR.run 5 [(2, .int .u8 t2), (3, .int .i64 t3), (9, .pointer t9), (11, .int .i64 t38), (32, .slice (some ⟨t32ab, t32ao, none⟩) t32n t32k), (33, .int .i64 t33), (34, .int .i64 t34), (43, .pointer t9), (44, .int .i64 t38)] 115 (s' := (.reg (opsAt (sub B [1, 1, 1, 1, 1, 0, 1, 0, 0, 1, 1, 0, 0, 1, 1, 1, 0])) [2, 3, 4, 5, 6, 7, 8, 9, 10, 11, 12, 13, 14, 15, 16, 17, 18, 19, 20] :: S16)) (by kernel_rfl) fun J => ?_
      obtain ⟨t45, H_2, q14, h⟩ := h
      refine KR.se (one_ca (by kernel_rfl) q14) ?_
      refine KR.run 2 [(2, .int .u8 t2), (3, .int .i64 t3), (9, .pointer t9), (11, .int .i64 t38), (32, .slice (some ⟨t32ab, t32ao, none⟩) t32n t32k), (33, .int .i64 t33), (34, .int .i64 t34), (47, .bool (!(t45 == 0)))] 115 (s' := (.reg (opsAt (sub B [1, 1, 1, 1, 1, 0, 1, 0, 0, 1, 1, 0, 0, 1, 1, 1, 0])) [5, 6, 7, 8, 9, 10, 11, 12, 13, 14, 15, 16, 17, 18, 19, 20] :: S16)) (by kernel_rfl) fun J => ?_
      by_cases c15 : t45 = 0
      · replace h := iteT c15 h
        refine KR.setV 47 (by kernel_rfl) (nB (eT c15)) ?_
        refine KR.run 2 [(2, .int .u8 t2), (3, .int .i64 t3), (9, .pointer t9), (32, .slice (some ⟨t32ab, t32ao, none⟩) t32n t32k), (33, .int .i64 t33), (34, .int .i64 t34), (47, .bool false), (48, .pointer t9), (49, .int .i64 t38)] 115 (s' := (.reg (opsAt (sub B [1, 1, 1, 1, 1, 0, 1, 0, 0, 1, 1, 0, 0, 1, 1, 1, 0])) [7, 8, 9, 10, 11, 12, 13, 14, 15, 16, 17, 18, 19, 20] :: S16)) (by kernel_rfl) fun J => ?_
        obtain ⟨t50a, t50n, t50k, H_3, q16, h⟩ := h
        refine KR.se (one_ca (by kernel_rfl) q16) ?_
        refine KR.run 4 [(2, .int .u8 t2), (3, .int .i64 t3), (9, .pointer t9), (32, .slice (some ⟨t32ab, t32ao, none⟩) t32n t32k), (33, .int .i64 t33), (34, .int .i64 t34), (54, .bool (!(((t50n : Nat) : Int) == 0)))] 115 (s' := (.reg (opsAt (sub B [1, 1, 1, 1, 1, 0, 1, 0, 0, 1, 1, 0, 0, 1, 1, 1, 0])) [12, 13, 14, 15, 16, 17, 18, 19, 20] :: S16)) (by kernel_rfl) fun J => ?_
        by_cases c17 : ((t50n : Nat) : Int) = 0
        · replace h := iteT c17 h
          refine KR.setV 54 (by kernel_rfl) (nB (eT c17)) ?_
          refine KR.run 1 [(2, .int .u8 t2), (3, .int .i64 t3), (9, .pointer t9), (32, .slice (some ⟨t32ab, t32ao, none⟩) t32n t32k), (33, .int .i64 t33), (34, .int .i64 t34), (54, .bool false), (55, .pointer t9)] 115 (s' := (.reg (opsAt (sub B [1, 1, 1, 1, 1, 0, 1, 0, 0, 1, 1, 0, 0, 1, 1, 1, 0])) [13, 14, 15, 16, 17, 18, 19, 20] :: S16)) (by kernel_rfl) fun J => ?_
          obtain ⟨t56, H_4, q18, h⟩ := h
          refine KR.se (one_ca (by kernel_rfl) q18) ?_
          refine KR.run 3 [(2, .int .u8 t2), (3, .int .i64 t3), (9, .pointer t9), (32, .slice (some ⟨t32ab, t32ao, none⟩) t32n t32k), (33, .int .i64 t33), (34, .int .i64 t34), (59, .bool (!(t56 == 0)))] 115 (s' := (.reg (opsAt (sub B [1, 1, 1, 1, 1, 0, 1, 0, 0, 1, 1, 0, 0, 1, 1, 1, 0])) [17, 18, 19, 20] :: S16)) (by kernel_rfl) fun J => ?_
          by_cases c19 : t56 = 0
          · replace h := iteT c19 h
            refine KR.setV 59 (by kernel_rfl) (nB (eT c19)) ?_
            refine KR.run 1 [(2, .int .u8 t2), (3, .int .i64 t3), (9, .pointer t9), (32, .slice (some ⟨t32ab, t32ao, none⟩) t32n t32k), (33, .int .i64 t33), (34, .int .i64 t34), (59, .bool false), (60, .pointer t9)] 115 (s' := (.reg (opsAt (sub B [1, 1, 1, 1, 1, 0, 1, 0, 0, 1, 1, 0, 0, 1, 1, 1, 0])) [18, 19, 20] :: S16)) (by kernel_rfl) fun J => ?_
            obtain ⟨t61, H_5, q20, h⟩ := h
            refine KR.se (one_ca (by kernel_rfl) q20) ?_
            exact KR.run 3 [(2, .int .u8 t2), (3, .int .i64 t3), (9, .pointer t9), (32, .slice (some ⟨t32ab, t32ao, none⟩) t32n t32k), (33, .int .i64 t33), (34, .int .i64 t34), (63, .bool (!(t61 == 2)))] 115 (s' := (.code (sub B [1, 1, 1, 1, 1, 0, 1, 0, 0, 1, 1, 0, 0, 1, 1, 1, 1]) :: S11)) (by kernel_rfl) h
          · replace h := iteF c19 h
            refine KR.setV 59 (by kernel_rfl) (nB (eF c19)) ?_
            exact KR.run 5 [(2, .int .u8 t2), (3, .int .i64 t3), (9, .pointer t9), (32, .slice (some ⟨t32ab, t32ao, none⟩) t32n t32k), (33, .int .i64 t33), (34, .int .i64 t34), (63, .bool true)] 115 (s' := (.code (sub B [1, 1, 1, 1, 1, 0, 1, 0, 0, 1, 1, 0, 0, 1, 1, 1, 1]) :: S11)) (by kernel_rfl) h
        · replace h := iteF c17 h
          refine KR.setV 54 (by kernel_rfl) (nB (eF c17)) ?_
          exact KR.run 10 [(2, .int .u8 t2), (3, .int .i64 t3), (9, .pointer t9), (32, .slice (some ⟨t32ab, t32ao, none⟩) t32n t32k), (33, .int .i64 t33), (34, .int .i64 t34), (63, .bool true)] 115 (s' := (.code (sub B [1, 1, 1, 1, 1, 0, 1, 0, 0, 1, 1, 0, 0, 1, 1, 1, 1]) :: S11)) (by kernel_rfl) h
      · replace h := iteF c15 h
        refine KR.setV 47 (by kernel_rfl) (nB (eF c15)) ?_
        exact KR.run 17 [(2, .int .u8 t2), (3, .int .i64 t3), (9, .pointer t9), (32, .slice (some ⟨t32ab, t32ao, none⟩) t32n t32k), (33, .int .i64 t33), (34, .int .i64 t34), (63, .bool true)] 115 (s' := (.code (sub B [1, 1, 1, 1, 1, 0, 1, 0, 0, 1, 1, 0, 0, 1, 1, 1, 1]) :: S11)) (by kernel_rfl) h
  · replace h := iteF c9 h
    refine KR.br false (by kernel_rfl) (vB (dF c9)) ?_
    exact KR.run 3 [(2, .int .u8 t2), (3, .int .i64 t3)] 115 (s' := (.reg (opsAt (sub B [1, 1, 1, 1, 1, 1, 0])) [0, 1, 2, 3, 4, 5] :: S14)) (by kernel_rfl) h
theorem L2_step {t2 : Int} {t3 : Int} {H : Heap} {r : Value × Heap} (h :
    ∃ (H_1 : Heap), H_1 = H.push (.row [.int .u8 t2, .int .u8 7] true) ∧
    (∃ (t72 : Option Addr) (H_2 : Heap), xC Try.prog good 17 [.slice (some ⟨H.next, 0, none⟩) 2 (UNK 1)] H_1 = some (.pointer t72, H_2) ∧
    (∃ (t75 : Int) (H_3 : Heap), xC Try.prog good 18 [.pointer t72, .int .i64 (IntKind.wrap .i64 (1 + (IntKind.wrap .i64 (Int.tmod (IntKind.wrap .u64 t3) 7))))] H_2 = some (.int .u64 t75, H_3) ∧
    (∃ (H_4 : Heap), xC Try.prog good 33 [.pointer t72] H_3 = some (.tuple #[], H_4) ∧
    ((0 : Int) ≤ (IntKind.wrap .u64 (IntKind.wrap .i64 (1 + (IntKind.wrap .i64 (Int.tmod (IntKind.wrap .u64 t3) 7))))) ∧
    (if (ishl .u8 t2 (IntKind.wrap .u64 (IntKind.wrap .i64 (1 + (IntKind.wrap .i64 (Int.tmod (IntKind.wrap .u64 t3) 7)))))) = 0 then
    (∃ (t100 : Int) (H_5 : Heap), xC Try.prog good 36 [.pointer t72] H_4 = some (.int .i64 t100, H_5) ∧
    (if t100 = 8 then
    (∃ (t104 : Int) (H_6 : Heap), xC Try.prog good 18 [.pointer t72, .int .i64 8] H_5 = some (.int .u64 t104, H_6) ∧
    (if t104 = 7 then
    (∃ (t109 : Int) (H_7 : Heap), xC Try.prog good 37 [.pointer t72] H_6 = some (.int .i64 t109, H_7) ∧
    (if t109 = 0 then
    (∃ (t113 : Bool) (H_8 : Heap), xC Try.prog good 19 [] H_7 = some (.bool t113, H_8) ∧
    (r = (.bool t113, H_8)))
    else
    (r = (.bool false, H_7))))
    else
    (r = (.bool false, H_6))))
    else
    (r = (.bool false, H_5))))
    else
    (∃ (t84 : Int) (H_9 : Heap), xC Try.prog good 37 [.pointer t72] H_4 = some (.int .i64 t84, H_9) ∧
    (if t84 = 3 then
    (∃ (t88 : Int) (H_10 : Heap), xC Try.prog good 36 [.pointer t72] H_9 = some (.int .i64 t88, H_10) ∧
    (if t88 = 0 then
    (∃ (t93 : Int) (H_11 : Heap), xC Try.prog good 18 [.pointer t72, .int .i64 8] H_10 = some (.int .u64 t93, H_11) ∧
    (if t93 = 0 then
    (∃ (t97 : Bool) (H_12 : Heap), xC Try.prog good 19 [] H_11 = some (.bool t97, H_12) ∧
    (r = (.bool t97, H_12)))
    else
    (r = (.bool false, H_11))))
    else
    (r = (.bool false, H_10))))
    else
    (r = (.bool false, H_9)))))))))) :
    L2 t2 t3 H r := by
  intro J
  show KR _ _ _ (.reg (opsAt (sub B [1, 1, 1, 1, 1, 1, 0])) [0, 1, 2, 3, 4, 5] :: S14) _ _ _
  refine KR.run 10 [(2, .int .u8 t2), (3, .int .i64 (IntKind.wrap .i64 (1 + (IntKind.wrap .i64 (Int.tmod (IntKind.wrap .u64 t3) 7))))), (70, .int .u8 t2)] 115 (s' := (.reg (opsAt (sub B [1, 1, 1, 1, 1, 1, 1, 0])) [1, 2, 3] :: S17)) (by kernel_rfl) fun J => ?_
  obtain ⟨H_1, q21, h⟩ := h
  refine KR.mk (w := sRow 2 1 [.int .u8 t2, .int .u8 7]) (one_al (by kernel_rfl)) q21 ?_
  obtain ⟨t72, H_2, q22, h⟩ := h
  refine KR.se (one_ca (by kernel_rfl) q22) ?_
  refine KR.run 6 [(2, .int .u8 t2), (3, .int .i64 (IntKind.wrap .i64 (1 + (IntKind.wrap .i64 (Int.tmod (IntKind.wrap .u64 t3) 7))))), (12, .pointer t72), (73, .pointer t72), (74, .int .i64 (IntKind.wrap .i64 (1 + (IntKind.wrap .i64 (Int.tmod (IntKind.wrap .u64 t3) 7)))))] 115 (s' := (.reg (opsAt (sub B [1, 1, 1, 1, 1, 1, 1, 1, 0])) [2] :: S18)) (by kernel_rfl) fun J => ?_
  obtain ⟨t75, H_3, q23, h⟩ := h
  refine KR.se (one_ca (by kernel_rfl) q23) ?_
  refine KR.run 4 [(2, .int .u8 t2), (3, .int .i64 (IntKind.wrap .i64 (1 + (IntKind.wrap .i64 (Int.tmod (IntKind.wrap .u64 t3) 7))))), (12, .pointer t72), (76, .pointer t72)] 115 (s' := (.reg (opsAt (sub B [1, 1, 1, 1, 1, 1, 1, 1, 1, 0])) [1] :: S19)) (by kernel_rfl) fun J => ?_
  obtain ⟨H_4, q24, h⟩ := h
  refine KR.se (one_ca (by kernel_rfl) q24) ?_
  refine KR.run 7 [(12, .pointer t72), (78, .int .u8 t2), (80, .int .u64 (IntKind.wrap .u64 (IntKind.wrap .i64 (1 + (IntKind.wrap .i64 (Int.tmod (IntKind.wrap .u64 t3) 7))))))] 115 (s' := (.reg (opsAt (sub B [1, 1, 1, 1, 1, 1, 1, 1, 1, 1, 0, 0])) [3, 4] :: S21)) (by kernel_rfl) fun J => ?_
  obtain ⟨q25, h⟩ := h
  refine KR.p (one_shl .u8 .u64 t2 (by kernel_rfl) q25) ?_
  refine KR.run 2 [(12, .pointer t72), (82, .bool (!((ishl .u8 t2 (IntKind.wrap .u64 (IntKind.wrap .i64 (1 + (IntKind.wrap .i64 (Int.tmod (IntKind.wrap .u64 t3) 7)))))) == 0)))] 115 (s' := (.code (sub B [1, 1, 1, 1, 1, 1, 1, 1, 1, 1, 0, 1]) :: S20)) (by kernel_rfl) fun J => ?_
  by_cases c26 : (ishl .u8 t2 (IntKind.wrap .u64 (IntKind.wrap .i64 (1 + (IntKind.wrap .i64 (Int.tmod (IntKind.wrap .u64 t3) 7)))))) = 0
  · replace h := iteT c26 h
    refine KR.br false (by kernel_rfl) (vB (nB (eT c26))) ?_
    refine KR.run 4 [(12, .pointer t72), (99, .pointer t72)] 115 (s' := (.reg (opsAt (sub B [1, 1, 1, 1, 1, 1, 1, 1, 1, 1, 1, 0])) [1, 2, 3, 4, 5, 6, 7, 8, 9, 10, 11, 12, 13, 14, 15, 16] :: S22)) (by kernel_rfl) fun J => ?_
    obtain ⟨t100, H_5, q27, h⟩ := h
    refine KR.se (one_ca (by kernel_rfl) q27) ?_
    refine KR.run 2 [(12, .pointer t72), (102, .bool (t100 == 8))] 115 (s' := (.reg (opsAt (sub B [1, 1, 1, 1, 1, 1, 1, 1, 1, 1, 1, 0])) [4, 5, 6, 7, 8, 9, 10, 11, 12, 13, 14, 15, 16] :: S22)) (by kernel_rfl) fun J => ?_
    by_cases c28 : t100 = 8
    · replace h := iteT c28 h
      refine KR.setV 102 (by kernel_rfl) (eT c28) ?_
      refine KR.run 1 [(12, .pointer t72), (102, .bool true), (103, .pointer t72)] 115 (s' := (.reg (opsAt (sub B [1, 1, 1, 1, 1, 1, 1, 1, 1, 1, 1, 0])) [5, 6, 7, 8, 9, 10, 11, 12, 13, 14, 15, 16] :: S22)) (by kernel_rfl) fun J => ?_
      obtain ⟨t104, H_6, q29, h⟩ := h
      refine KR.se (one_ca (by kernel_rfl) q29) ?_
      refine KR.run 3 [(12, .pointer t72), (107, .bool (t104 == 7))] 115 (s' := (.reg (opsAt (sub B [1, 1, 1, 1, 1, 1, 1, 1, 1, 1, 1, 0])) [9, 10, 11, 12, 13, 14, 15, 16] :: S22)) (by kernel_rfl) fun J => ?_
      by_cases c30 : t104 = 7
      · replace h := iteT c30 h
        refine KR.setV 107 (by kernel_rfl) (eT c30) ?_
        refine KR.run 1 [(107, .bool true), (108, .pointer t72)] 115 (s' := (.reg (opsAt (sub B [1, 1, 1, 1, 1, 1, 1, 1, 1, 1, 1, 0])) [10, 11, 12, 13, 14, 15, 16] :: S22)) (by kernel_rfl) fun J => ?_
        obtain ⟨t109, H_7, q31, h⟩ := h
        refine KR.se (one_ca (by kernel_rfl) q31) ?_
        refine KR.run 3 [(112, .bool (t109 == 0))] 115 (s' := (.reg (opsAt (sub B [1, 1, 1, 1, 1, 1, 1, 1, 1, 1, 1, 0])) [14, 15, 16] :: S22)) (by kernel_rfl) fun J => ?_
        by_cases c32 : t109 = 0
        · replace h := iteT c32 h
          refine KR.setV 112 (by kernel_rfl) (eT c32) ?_
          obtain ⟨t113, H_8, q33, h⟩ := h
          refine KR.se (one_ca (by kernel_rfl) q33) ?_
          refine KR.run 3 [(8, .bool t113)] 115 (s' := (.code (sub B [1, 1, 1, 1, 1, 1, 1, 1, 1, 1, 1, 1]) :: [])) (by kernel_rfl) fun J => ?_
          exact KR.fin (by kernel_rfl) h
        · replace h := iteF c32 h
          refine KR.setV 112 (by kernel_rfl) (eF c32) ?_
          refine KR.run 4 [(8, .bool false)] 115 (s' := (.code (sub B [1, 1, 1, 1, 1, 1, 1, 1, 1, 1, 1, 1]) :: [])) (by kernel_rfl) fun J => ?_
          exact KR.fin (by kernel_rfl) h
      · replace h := iteF c30 h
        refine KR.setV 107 (by kernel_rfl) (eF c30) ?_
        refine KR.run 9 [(8, .bool false)] 115 (s' := (.code (sub B [1, 1, 1, 1, 1, 1, 1, 1, 1, 1, 1, 1]) :: [])) (by kernel_rfl) fun J => ?_
        exact KR.fin (by kernel_rfl) h
    · replace h := iteF c28 h
      refine KR.setV 102 (by kernel_rfl) (eF c28) ?_
      refine KR.run 14 [(8, .bool false)] 115 (s' := (.code (sub B [1, 1, 1, 1, 1, 1, 1, 1, 1, 1, 1, 1]) :: [])) (by kernel_rfl) fun J => ?_
      exact KR.fin (by kernel_rfl) h
  · replace h := iteF c26 h
    refine KR.br true (by kernel_rfl) (vB (nB (eF c26))) ?_
    refine KR.run 3 [(12, .pointer t72), (83, .pointer t72)] 115 (s' := (.reg (opsAt (sub B [1, 1, 1, 1, 1, 1, 1, 1, 1, 1, 0, 1, 0, 0])) [1, 2, 3, 4, 5, 6, 7, 8, 9, 10, 11, 12, 13, 14, 15, 16] :: S23)) (by kernel_rfl) fun J => ?_
    obtain ⟨t84, H_9, q34, h⟩ := h
    refine KR.se (one_ca (by kernel_rfl) q34) ?_
    refine KR.run 2 [(12, .pointer t72), (86, .bool (t84 == 3))] 115 (s' := (.reg (opsAt (sub B [1, 1, 1, 1, 1, 1, 1, 1, 1, 1, 0, 1, 0, 0])) [4, 5, 6, 7, 8, 9, 10, 11, 12, 13, 14, 15, 16] :: S23)) (by kernel_rfl) fun J => ?_
    by_cases c35 : t84 = 3
    · replace h := iteT c35 h
      refine KR.setV 86 (by kernel_rfl) (eT c35) ?_
      refine KR.run 1 [(12, .pointer t72), (86, .bool true), (87, .pointer t72)] 115 (s' := (.reg (opsAt (sub B [1, 1, 1, 1, 1, 1, 1, 1, 1, 1, 0, 1, 0, 0])) [5, 6, 7, 8, 9, 10, 11, 12, 13, 14, 15, 16] :: S23)) (by kernel_rfl) fun J => ?_
      obtain ⟨t88, H_10, q36, h⟩ := h
      refine KR.se (one_ca (by kernel_rfl) q36) ?_
      refine KR.run 3 [(12, .pointer t72), (91, .bool (t88 == 0))] 115 (s' := (.reg (opsAt (sub B [1, 1, 1, 1, 1, 1, 1, 1, 1, 1, 0, 1, 0, 0])) [9, 10, 11, 12, 13, 14, 15, 16] :: S23)) (by kernel_rfl) fun J => ?_
      by_cases c37 : t88 = 0
      · replace h := iteT c37 h
        refine KR.setV 91 (by kernel_rfl) (eT c37) ?_
        refine KR.run 1 [(91, .bool true), (92, .pointer t72)] 115 (s' := (.reg (opsAt (sub B [1, 1, 1, 1, 1, 1, 1, 1, 1, 1, 0, 1, 0, 0])) [10, 11, 12, 13, 14, 15, 16] :: S23)) (by kernel_rfl) fun J => ?_
        obtain ⟨t93, H_11, q38, h⟩ := h
        refine KR.se (one_ca (by kernel_rfl) q38) ?_
        refine KR.run 3 [(96, .bool (t93 == 0))] 115 (s' := (.reg (opsAt (sub B [1, 1, 1, 1, 1, 1, 1, 1, 1, 1, 0, 1, 0, 0])) [14, 15, 16] :: S23)) (by kernel_rfl) fun J => ?_
        by_cases c39 : t93 = 0
        · replace h := iteT c39 h
          refine KR.setV 96 (by kernel_rfl) (eT c39) ?_
          obtain ⟨t97, H_12, q40, h⟩ := h
          refine KR.se (one_ca (by kernel_rfl) q40) ?_
          refine KR.run 3 [(8, .bool t97)] 115 (s' := (.code (sub B [1, 1, 1, 1, 1, 1, 1, 1, 1, 1, 0, 1, 0, 1]) :: S20)) (by kernel_rfl) fun J => ?_
          exact KR.fin (by kernel_rfl) h
        · replace h := iteF c39 h
          refine KR.setV 96 (by kernel_rfl) (eF c39) ?_
          refine KR.run 4 [(8, .bool false)] 115 (s' := (.code (sub B [1, 1, 1, 1, 1, 1, 1, 1, 1, 1, 0, 1, 0, 1]) :: S20)) (by kernel_rfl) fun J => ?_
          exact KR.fin (by kernel_rfl) h
      · replace h := iteF c37 h
        refine KR.setV 91 (by kernel_rfl) (eF c37) ?_
        refine KR.run 9 [(8, .bool false)] 115 (s' := (.code (sub B [1, 1, 1, 1, 1, 1, 1, 1, 1, 1, 0, 1, 0, 1]) :: S20)) (by kernel_rfl) fun J => ?_
        exact KR.fin (by kernel_rfl) h
    · replace h := iteF c35 h
      refine KR.setV 86 (by kernel_rfl) (eF c35) ?_
      refine KR.run 14 [(8, .bool false)] 115 (s' := (.code (sub B [1, 1, 1, 1, 1, 1, 1, 1, 1, 1, 0, 1, 0, 1]) :: S20)) (by kernel_rfl) fun J => ?_
      exact KR.fin (by kernel_rfl) h
theorem L3_step {t2 : Int} {t3 : Int} {t9 : Option Addr} {t32b : Nat} {t32o : Nat} {t32n : Nat} {t32k : Nat} {t33 : Int} {t34 : Int} {t63 : Bool} {H : Heap} {r : Value × Heap} (h :
    if t63 = true then
    (r = (.bool false, H))
    else
    (L1 (t2) (t3) (t9) ((some ⟨t32b, t32o, none⟩)) (t32n) (t32k) (t33) ((IntKind.wrap .i64 (t34 + 1))) H r)) :
    L3 t2 t3 t9 t32b t32o t32n t32k t33 t34 t63 H r := by
  intro J
  show KR _ _ _ (.code (sub B [1, 1, 1, 1, 1, 0, 1, 0, 0, 1, 1, 0, 0, 1, 1, 1, 1]) :: S11) _ _ _
  by_cases c41 : t63 = true
  · replace h := iteT c41 h
    refine KR.br true (by kernel_rfl) (vB (bT c41)) ?_
    refine KR.run 4 [(8, .bool false)] 115 (s' := (.code (sub B [1, 1, 1, 1, 1, 0, 1, 0, 0, 1, 1, 0, 0, 1, 1, 1, 1, 0, 1]) :: S11)) (by kernel_rfl) fun J => ?_
    exact KR.fin (by kernel_rfl) h
  · replace h := iteF c41 h
    refine KR.br false (by kernel_rfl) (vB (bF c41)) ?_
    exact KR.run 6 [(2, .int .u8 t2), (3, .int .i64 t3), (9, .pointer t9), (32, .slice (some ⟨t32b, t32o, none⟩) t32n t32k), (33, .int .i64 t33), (34, .int .i64 (IntKind.wrap .i64 (t34 + 1)))] 115 (s' := (.lp (sub B [1, 1, 1, 1, 1, 0, 1, 0, 0]) :: S7)) (by kernel_rfl) h
theorem call {a0a : Option Addr} {a0n : Nat} {a0k : Nat} {a1a : Option Addr} {a1n : Nat} {a1k : Nat} {a2 : Int} {a3 : Int} {H : Heap} {r : Value × Heap} (h :
    if ((a0n : Nat) : Int) > 100 then
    (∃ (t16 : Bool) (H_1 : Heap), xC Try.prog good 19 [] H = some (.bool t16, H_1) ∧
    (r = (.bool t16, H_1)))
    else
    (∃ (t18 : Option Addr) (H_2 : Heap), xC Try.prog good 17 [.slice a0a a0n a0k] H = some (.pointer t18, H_2) ∧
    (∃ (t23a : Option Addr) (t23n : Nat) (t23k : Nat) (H_3 : Heap), xC Try.prog good 31 [.pointer t18, .int .i64 (IntKind.wrap .i64 (((a0n : Nat) : Int) + 1))] H_2 = some (.slice t23a t23n t23k, H_3) ∧
    (∃ (t25 : Int) (H_4 : Heap), xC Try.prog good 36 [.pointer t18] H_3 = some (.int .i64 t25, H_4) ∧
    (if t25 = 0 then
    (∃ (t29 : Int) (H_5 : Heap), xC Try.prog good 37 [.pointer t18] H_4 = some (.int .i64 t29, H_5) ∧
    (L0 (a1a) (a1n) (a1k) (a2) (a3) (t18) ((!(t29 == 2))) H_5 r))
    else
    (L0 (a1a) (a1n) (a1k) (a2) (a3) (t18) (true) H_4 r)))))) :
    xC Try.prog good 8 [.slice a0a a0n a0k, .slice a1a a1n a1k, .int .u8 a2, .int .i64 a3] H = some r := by
  refine KR.enter (fn := Try.f8) (c := B) (by kernel_rfl) (by kernel_rfl) ?_
  refine KR.run 11 [(0, .slice a0a a0n a0k), (1, .slice a1a a1n a1k), (2, .int .u8 a2), (3, .int .i64 a3), (15, .bool (decide (((a0n : Nat) : Int) > 100)))] 115 (s' := (.code (sub B [1, 0, 1]) :: S0)) (by kernel_rfl) fun J => ?_
  by_cases c1 : ((a0n : Nat) : Int) > 100
  · replace h := iteT c1 h
    refine KR.br true (by kernel_rfl) (vB (dT c1)) ?_
    refine KR.run 2 [] 115 (s' := (.reg (opsAt (sub B [1, 0, 1, 0, 0])) [0, 1] :: S1)) (by kernel_rfl) fun J => ?_
    obtain ⟨t16, H_1, q2, h⟩ := h
    refine KR.se (one_ca (by kernel_rfl) q2) ?_
    refine KR.run 2 [(8, .bool t16)] 115 (s' := (.code (sub B [1, 0, 1, 0, 1]) :: S0)) (by kernel_rfl) fun J => ?_
    exact KR.fin (by kernel_rfl) h
  · replace h := iteF c1 h
    refine KR.br false (by kernel_rfl) (vB (dF c1)) ?_
    refine KR.run 4 [(0, .slice a0a a0n a0k), (1, .slice a1a a1n a1k), (2, .int .u8 a2), (3, .int .i64 a3), (17, .slice a0a a0n a0k)] 115 (s' := (.reg (opsAt (sub B [1, 1, 0])) [1, 2] :: S2)) (by kernel_rfl) fun J => ?_
    obtain ⟨t18, H_2, q3, h⟩ := h
    refine KR.se (one_ca (by kernel_rfl) q3) ?_
    refine KR.run 8 [(1, .slice a1a a1n a1k), (2, .int .u8 a2), (3, .int .i64 a3), (9, .pointer t18), (19, .pointer t18), (22, .int .i64 (IntKind.wrap .i64 (((a0n : Nat) : Int) + 1)))] 115 (s' := (.reg (opsAt (sub B [1, 1, 1, 0])) [4] :: S3)) (by kernel_rfl) fun J => ?_
    obtain ⟨t23a, t23n, t23k, H_3, q4, h⟩ := h
    refine KR.se (one_ca (by kernel_rfl) q4) ?_
    refine KR.run 5 [(1, .slice a1a a1n a1k), (2, .int .u8 a2), (3, .int .i64 a3), (9, .pointer t18), (24, .pointer t18)] 115 (s' := (.reg (opsAt (sub B [1, 1, 1, 1, 0, 0])) [1, 2, 3, 4, 5, 6, 7] :: S5)) (by kernel_rfl) fun J => ?_
    obtain ⟨t25, H_4, q5, h⟩ := h
    refine KR.se (one_ca (by kernel_rfl) q5) ?_
    refine KR.run 2 [(1, .slice a1a a1n a1k), (2, .int .u8 a2), (3, .int .i64 a3), (9, .pointer t18), (27, .bool (!(t25 == 0)))] 115 (s' := (.reg (opsAt (sub B [1, 1, 1, 1, 0, 0])) [4, 5, 6, 7] :: S5)) (by kernel_rfl) fun J => ?_
    by_cases c6 : t25 = 0
    · replace h := iteT c6 h
      refine KR.setV 27 (by kernel_rfl) (nB (eT c6)) ?_
      refine KR.run 1 [(1, .slice a1a a1n a1k), (2, .int .u8 a2), (3, .int .i64 a3), (9, .pointer t18), (27, .bool false), (28, .pointer t18)] 115 (s' := (.reg (opsAt (sub B [1, 1, 1, 1, 0, 0])) [5, 6, 7] :: S5)) (by kernel_rfl) fun J => ?_
      obtain ⟨t29, H_5, q7, h⟩ := h
      refine KR.se (one_ca (by kernel_rfl) q7) ?_
      exact KR.run 3 [(1, .slice a1a a1n a1k), (2, .int .u8 a2), (3, .int .i64 a3), (9, .pointer t18), (31, .bool (!(t29 == 2)))] 115 (s' := (.code (sub B [1, 1, 1, 1, 0, 1]) :: S4)) (by kernel_rfl) h
    · replace h := iteF c6 h
      refine KR.setV 27 (by kernel_rfl) (nB (eF c6)) ?_
      exact KR.run 5 [(1, .slice a1a a1n a1k), (2, .int .u8 a2), (3, .int .i64 a3), (9, .pointer t18), (31, .bool true)] 115 (s' := (.code (sub B [1, 1, 1, 1, 0, 1]) :: S4)) (by kernel_rfl) h
end F8
/-! #### 9 campanile/campanilelaw3.BitsNil -/
namespace F9
noncomputable def B : Code := bodyOf Try.f9
noncomputable def S0 : List It := (.code (sub B [1]) :: [])
noncomputable def S1 : List It := (.code (sub B [1, 1, 1, 1]) :: [])
noncomputable def S2 : List It := (.code (sub B [1, 1, 1, 1, 1]) :: [])
noncomputable def S3 : List It := (.code (sub B [1, 1, 1, 1, 1, 1]) :: [])
noncomputable def S4 : List It := (.code (sub B [1, 1, 1, 1, 1, 1, 1]) :: [])
noncomputable def S5 : List It := (.code (sub B [1, 1, 1, 1, 1, 1, 1, 1]) :: [])
theorem call {a0c0 : Int} {a0c1 : Int} {a0c2 : Bool} {a0c3 : Bool} {a0c4a : Option Addr} {a0c4n : Nat} {a0c4k : Nat} {H : Heap} {r : Value × Heap} (h :
    ∃ (H_1 : Heap), H_1 = H.push (.row [.int .u64 a0c0, .int .i64 a0c1, .bool a0c2, .bool a0c3, .slice a0c4a a0c4n a0c4k] true) ∧
    (∃ (t7 : Int), ldc H_1 H.next 0 = some (.int .u64 t7) ∧
    (∃ (t9 : Int), ldc H_1 H.next 1 = some (.int .i64 t9) ∧
    (∃ (H_2 : Heap), xC Try.prog good 14 [.pointer none, .int .u64 t7, .int .i64 t9] H_1 = some (.tuple #[], H_2) ∧
    (∃ (t13a : Option Addr) (t13n : Nat) (t13k : Nat), ldc H_2 H.next 4 = some (.slice t13a t13n t13k) ∧
    (∃ (H_3 : Heap), xC Try.prog good 39 [.pointer none, .slice t13a t13n t13k] H_2 = some (.tuple #[], H_3) ∧
    (∃ (H_4 : Heap), xC Try.prog good 40 [.pointer none] H_3 = some (.tuple #[], H_4) ∧
    (∃ (H_5 : Heap), xC Try.prog good 33 [.pointer none] H_4 = some (.tuple #[], H_5) ∧
    (∃ (t20 : Int) (H_6 : Heap), xC Try.prog good 15 [.pointer none] H_5 = some (.int .i64 t20, H_6) ∧
    (if t20 = 0 then
    (∃ (t24a : Option Addr) (t24n : Nat) (t24k : Nat) (H_7 : Heap), xC Try.prog good 16 [.pointer none] H_6 = some (.slice t24a t24n t24k, H_7) ∧
    (if ((t24n : Nat) : Int) = 0 then
    (∃ (t31 : Int), ldc H_7 H.next 1 = some (.int .i64 t31) ∧
    (∃ (t32 : Int) (H_8 : Heap), xC Try.prog good 18 [.pointer none, .int .i64 t31] H_7 = some (.int .u64 t32, H_8) ∧
    (if t32 = 0 then
    (∃ (t38 : Int), ldc H_8 H.next 1 = some (.int .i64 t38) ∧
    (∃ (t39a : Option Addr) (t39n : Nat) (t39k : Nat) (H_9 : Heap), xC Try.prog good 31 [.pointer none, .int .i64 t38] H_8 = some (.slice t39a t39n t39k, H_9) ∧
    (if ((t39n : Nat) : Int) = 0 then
    (∃ (t45 : Int) (H_10 : Heap), xC Try.prog good 36 [.pointer none] H_9 = some (.int .i64 t45, H_10) ∧
    (if t45 = 0 then
    (∃ (t50 : Int) (H_11 : Heap), xC Try.prog good 37 [.pointer none] H_10 = some (.int .i64 t50, H_11) ∧
    (if t50 = 1 then
    (∃ (t54 : Bool) (H_12 : Heap), xC Try.prog good 19 [] H_11 = some (.bool t54, H_12) ∧
    (r = (.bool t54, H_12)))
    else
    (r = (.bool false, H_11))))
    else
    (r = (.bool false, H_10))))
    else
    (r = (.bool false, H_9)))))
    else
    (r = (.bool false, H_8)))))
    else
    (r = (.bool false, H_7))))
    else
    (r = (.bool false, H_6)))))))))))) :
    xC Try.prog good 9 [.agg #[.int .u64 a0c0, .int .i64 a0c1, .bool a0c2, .bool a0c3, .slice a0c4a a0c4n a0c4k]] H = some r := by
  refine KR.enter (fn := Try.f9) (c := B) (by kernel_rfl) (by kernel_rfl) ?_
  refine KR.run 2 [(0, .agg #[.int .u64 a0c0, .int .i64 a0c1, .bool a0c2, .bool a0c3, .slice a0c4a a0c4n a0c4k])] 56 (s' := (.reg (opsAt (sub B [0])) [0, 1] :: S0)) (by kernel_rfl) fun J => ?_
  obtain ⟨H_1, q1, h⟩ := h
  refine KR.mk (w := pRow [.int .u64 a0c0, .int .i64 a0c1, .bool a0c2, .bool a0c3, .slice a0c4a a0c4n a0c4k]) (one_al (by kernel_rfl)) q1 ?_
  refine KR.run 14 [(1, .pointer (some ⟨H.next, 0, none⟩)), (3, .pointer none), (4, .pointer none), (5, .pointer none), (6, .pointer (some ⟨H.next, 0, none⟩))] 56 (s' := (.reg (opsAt (sub B [1, 1, 1, 0])) [2, 3, 4, 5] :: S1)) (by kernel_rfl) fun J => ?_
  obtain ⟨t7, q2, h⟩ := h
  refine KR.rd (one_ld (by kernel_rfl) q2) ?_
  refine KR.run 1 [(1, .pointer (some ⟨H.next, 0, none⟩)), (3, .pointer none), (4, .pointer none), (5, .pointer none), (7, .int .u64 t7), (8, .pointer (some ⟨H.next, 1, none⟩))] 56 (s' := (.reg (opsAt (sub B [1, 1, 1, 0])) [4, 5] :: S1)) (by kernel_rfl) fun J => ?_
  obtain ⟨t9, q3, h⟩ := h
  refine KR.rd (one_ld (by kernel_rfl) q3) ?_
  obtain ⟨H_2, q4, h⟩ := h
  refine KR.se (one_ca (by kernel_rfl) q4) ?_
  refine KR.run 5 [(1, .pointer (some ⟨H.next, 0, none⟩)), (3, .pointer none), (4, .pointer none), (11, .pointer none), (12, .pointer (some ⟨H.next, 4, none⟩))] 56 (s' := (.reg (opsAt (sub B [1, 1, 1, 1, 0])) [2, 3] :: S2)) (by kernel_rfl) fun J => ?_
  obtain ⟨t13a, t13n, t13k, q5, h⟩ := h
  refine KR.rd (one_ld (by kernel_rfl) q5) ?_
  obtain ⟨H_3, q6, h⟩ := h
  refine KR.se (one_ca (by kernel_rfl) q6) ?_
  refine KR.run 4 [(1, .pointer (some ⟨H.next, 0, none⟩)), (3, .pointer none), (4, .pointer none), (15, .pointer none)] 56 (s' := (.reg (opsAt (sub B [1, 1, 1, 1, 1, 0])) [1] :: S3)) (by kernel_rfl) fun J => ?_
  obtain ⟨H_4, q7, h⟩ := h
  refine KR.se (one_ca (by kernel_rfl) q7) ?_
  refine KR.run 4 [(1, .pointer (some ⟨H.next, 0, none⟩)), (3, .pointer none), (4, .pointer none), (17, .pointer none)] 56 (s' := (.reg (opsAt (sub B [1, 1, 1, 1, 1, 1, 0])) [1] :: S4)) (by kernel_rfl) fun J => ?_
  obtain ⟨H_5, q8, h⟩ := h
  refine KR.se (one_ca (by kernel_rfl) q8) ?_
  refine KR.run 4 [(1, .pointer (some ⟨H.next, 0, none⟩)), (3, .pointer none), (4, .pointer none), (19, .pointer none)] 56 (s' := (.reg (opsAt (sub B [1, 1, 1, 1, 1, 1, 1, 0])) [1, 2, 3, 4, 5, 6, 7, 8, 9, 10, 11, 12, 13, 14, 15, 16, 17, 18, 19, 20, 21, 22, 23, 24, 25, 26, 27, 28, 29, 30, 31, 32, 33, 34, 35, 36, 37] :: S5)) (by kernel_rfl) fun J => ?_
  obtain ⟨t20, H_6, q9, h⟩ := h
  refine KR.se (one_ca (by kernel_rfl) q9) ?_
  refine KR.run 2 [(1, .pointer (some ⟨H.next, 0, none⟩)), (3, .pointer none), (4, .pointer none), (22, .bool (t20 == 0))] 56 (s' := (.reg (opsAt (sub B [1, 1, 1, 1, 1, 1, 1, 0])) [4, 5, 6, 7, 8, 9, 10, 11, 12, 13, 14, 15, 16, 17, 18, 19, 20, 21, 22, 23, 24, 25, 26, 27, 28, 29, 30, 31, 32, 33, 34, 35, 36, 37] :: S5)) (by kernel_rfl) fun J => ?_
  by_cases c10 : t20 = 0
  · replace h := iteT c10 h
    refine KR.setV 22 (by kernel_rfl) (eT c10) ?_
    refine KR.run 1 [(1, .pointer (some ⟨H.next, 0, none⟩)), (4, .pointer none), (22, .bool true), (23, .pointer none)] 56 (s' := (.reg (opsAt (sub B [1, 1, 1, 1, 1, 1, 1, 0])) [5, 6, 7, 8, 9, 10, 11, 12, 13, 14, 15, 16, 17, 18, 19, 20, 21, 22, 23, 24, 25, 26, 27, 28, 29, 30, 31, 32, 33, 34, 35, 36, 37] :: S5)) (by kernel_rfl) fun J => ?_
    obtain ⟨t24a, t24n, t24k, H_7, q11, h⟩ := h
    refine KR.se (one_ca (by kernel_rfl) q11) ?_
    refine KR.run 4 [(1, .pointer (some ⟨H.next, 0, none⟩)), (4, .pointer none), (28, .bool (((t24n : Nat) : Int) == 0))] 56 (s' := (.reg (opsAt (sub B [1, 1, 1, 1, 1, 1, 1, 0])) [10, 11, 12, 13, 14, 15, 16, 17, 18, 19, 20, 21, 22, 23, 24, 25, 26, 27, 28, 29, 30, 31, 32, 33, 34, 35, 36, 37] :: S5)) (by kernel_rfl) fun J => ?_
    by_cases c12 : ((t24n : Nat) : Int) = 0
    · replace h := iteT c12 h
      refine KR.setV 28 (by kernel_rfl) (eT c12) ?_
      refine KR.run 2 [(1, .pointer (some ⟨H.next, 0, none⟩)), (4, .pointer none), (28, .bool true), (29, .pointer none), (30, .pointer (some ⟨H.next, 1, none⟩))] 56 (s' := (.reg (opsAt (sub B [1, 1, 1, 1, 1, 1, 1, 0])) [12, 13, 14, 15, 16, 17, 18, 19, 20, 21, 22, 23, 24, 25, 26, 27, 28, 29, 30, 31, 32, 33, 34, 35, 36, 37] :: S5)) (by kernel_rfl) fun J => ?_
      obtain ⟨t31, q13, h⟩ := h
      refine KR.rd (one_ld (by kernel_rfl) q13) ?_
      obtain ⟨t32, H_8, q14, h⟩ := h
      refine KR.se (one_ca (by kernel_rfl) q14) ?_
      refine KR.run 3 [(1, .pointer (some ⟨H.next, 0, none⟩)), (4, .pointer none), (35, .bool (t32 == 0))] 56 (s' := (.reg (opsAt (sub B [1, 1, 1, 1, 1, 1, 1, 0])) [17, 18, 19, 20, 21, 22, 23, 24, 25, 26, 27, 28, 29, 30, 31, 32, 33, 34, 35, 36, 37] :: S5)) (by kernel_rfl) fun J => ?_
      by_cases c15 : t32 = 0
      · replace h := iteT c15 h
        refine KR.setV 35 (by kernel_rfl) (eT c15) ?_
        refine KR.run 2 [(4, .pointer none), (35, .bool true), (36, .pointer none), (37, .pointer (some ⟨H.next, 1, none⟩))] 56 (s' := (.reg (opsAt (sub B [1, 1, 1, 1, 1, 1, 1, 0])) [19, 20, 21, 22, 23, 24, 25, 26, 27, 28, 29, 30, 31, 32, 33, 34, 35, 36, 37] :: S5)) (by kernel_rfl) fun J => ?_
        obtain ⟨t38, q16, h⟩ := h
        refine KR.rd (one_ld (by kernel_rfl) q16) ?_
        obtain ⟨t39a, t39n, t39k, H_9, q17, h⟩ := h
        refine KR.se (one_ca (by kernel_rfl) q17) ?_
        refine KR.run 4 [(4, .pointer none), (43, .bool (((t39n : Nat) : Int) == 0))] 56 (s' := (.reg (opsAt (sub B [1, 1, 1, 1, 1, 1, 1, 0])) [25, 26, 27, 28, 29, 30, 31, 32, 33, 34, 35, 36, 37] :: S5)) (by kernel_rfl) fun J => ?_
        by_cases c18 : ((t39n : Nat) : Int) = 0
        · replace h := iteT c18 h
          refine KR.setV 43 (by kernel_rfl) (eT c18) ?_
          refine KR.run 1 [(4, .pointer none), (43, .bool true), (44, .pointer none)] 56 (s' := (.reg (opsAt (sub B [1, 1, 1, 1, 1, 1, 1, 0])) [26, 27, 28, 29, 30, 31, 32, 33, 34, 35, 36, 37] :: S5)) (by kernel_rfl) fun J => ?_
          obtain ⟨t45, H_10, q19, h⟩ := h
          refine KR.se (one_ca (by kernel_rfl) q19) ?_
          refine KR.run 3 [(4, .pointer none), (48, .bool (t45 == 0))] 56 (s' := (.reg (opsAt (sub B [1, 1, 1, 1, 1, 1, 1, 0])) [30, 31, 32, 33, 34, 35, 36, 37] :: S5)) (by kernel_rfl) fun J => ?_
          by_cases c20 : t45 = 0
          · replace h := iteT c20 h
            refine KR.setV 48 (by kernel_rfl) (eT c20) ?_
            refine KR.run 1 [(48, .bool true), (49, .pointer none)] 56 (s' := (.reg (opsAt (sub B [1, 1, 1, 1, 1, 1, 1, 0])) [31, 32, 33, 34, 35, 36, 37] :: S5)) (by kernel_rfl) fun J => ?_
            obtain ⟨t50, H_11, q21, h⟩ := h
            refine KR.se (one_ca (by kernel_rfl) q21) ?_
            refine KR.run 3 [(53, .bool (t50 == 1))] 56 (s' := (.reg (opsAt (sub B [1, 1, 1, 1, 1, 1, 1, 0])) [35, 36, 37] :: S5)) (by kernel_rfl) fun J => ?_
            by_cases c22 : t50 = 1
            · replace h := iteT c22 h
              refine KR.setV 53 (by kernel_rfl) (eT c22) ?_
              obtain ⟨t54, H_12, q23, h⟩ := h
              refine KR.se (one_ca (by kernel_rfl) q23) ?_
              refine KR.run 3 [(2, .bool t54)] 56 (s' := (.code (sub B [1, 1, 1, 1, 1, 1, 1, 1]) :: [])) (by kernel_rfl) fun J => ?_
              exact KR.fin (by kernel_rfl) h
            · replace h := iteF c22 h
              refine KR.setV 53 (by kernel_rfl) (eF c22) ?_
              refine KR.run 4 [(2, .bool false)] 56 (s' := (.code (sub B [1, 1, 1, 1, 1, 1, 1, 1]) :: [])) (by kernel_rfl) fun J => ?_
              exact KR.fin (by kernel_rfl) h
          · replace h := iteF c20 h
            refine KR.setV 48 (by kernel_rfl) (eF c20) ?_
            refine KR.run 9 [(2, .bool false)] 56 (s' := (.code (sub B [1, 1, 1, 1, 1, 1, 1, 1]) :: [])) (by kernel_rfl) fun J => ?_
            exact KR.fin (by kernel_rfl) h
        · replace h := iteF c18 h
          refine KR.setV 43 (by kernel_rfl) (eF c18) ?_
          refine KR.run 14 [(2, .bool false)] 56 (s' := (.code (sub B [1, 1, 1, 1, 1, 1, 1, 1]) :: [])) (by kernel_rfl) fun J => ?_
          exact KR.fin (by kernel_rfl) h
      · replace h := iteF c15 h
        refine KR.setV 35 (by kernel_rfl) (eF c15) ?_
        refine KR.run 22 [(2, .bool false)] 56 (s' := (.code (sub B [1, 1, 1, 1, 1, 1, 1, 1]) :: [])) (by kernel_rfl) fun J => ?_
        exact KR.fin (by kernel_rfl) h
    · replace h := iteF c12 h
      refine KR.setV 28 (by kernel_rfl) (eF c12) ?_
      refine KR.run 29 [(2, .bool false)] 56 (s' := (.code (sub B [1, 1, 1, 1, 1, 1, 1, 1]) :: [])) (by kernel_rfl) fun J => ?_
      exact KR.fin (by kernel_rfl) h
  · replace h := iteF c10 h
    refine KR.setV 22 (by kernel_rfl) (eF c10) ?_
    refine KR.run 35 [(2, .bool false)] 56 (s' := (.code (sub B [1, 1, 1, 1, 1, 1, 1, 1]) :: [])) (by kernel_rfl) fun J => ?_
    exact KR.fin (by kernel_rfl) h
end F9
/-! #### 10 campanile/campanilelaw3.BitsBack -/
namespace F10
noncomputable def B : Code := bodyOf Try.f10
noncomputable def S0 : List It := (.code (sub B [1, 1]) :: [])
noncomputable def S2 : List It := (.code (sub B [1, 1, 1]) :: [])
noncomputable def S3 : List It := (.code (sub B [1, 1, 1, 1, 1]) :: [])
noncomputable def S20 : List It := (.code (sub B [1, 1, 1, 1, 1, 1]) :: [])
noncomputable def S21 : List It := (.code (sub B [1, 1, 1, 1, 1, 1, 1]) :: [])
noncomputable def S34 : List It := (.code (sub B [1, 1, 1, 1, 1, 1, 1, 1]) :: [])
noncomputable def S36 : List It := (.code (sub B [1, 1, 1, 1, 1, 1, 1, 1, 1]) :: [])
noncomputable def S37 : List It := (.code (sub B [1, 1, 1, 1, 1, 1, 1, 1, 1, 1]) :: [])
noncomputable def S1 : List It := (.code (sub B [1, 0, 1]) :: S0)
noncomputable def S4 : List It := (.blk 0 :: S3)
noncomputable def S5 : List It := (.code (sub B [1, 0, 1, 0, 1]) :: S0)
noncomputable def S22 : List It := (.blk 3 :: S21)
noncomputable def S35 : List It := (.code (sub B [1, 1, 1, 1, 1, 1, 1, 0, 1]) :: S34)
noncomputable def S6 : List It := (.lp (sub B [1, 1, 1, 1, 0, 1, 0, 0]) :: S4)
noncomputable def S23 : List It := (.lp (sub B [1, 1, 1, 1, 1, 1, 0, 1, 0, 0]) :: S22)
noncomputable def S7 : List It := (.code (sub B [1, 1, 1, 1, 0, 1, 0, 0, 1, 1]) :: S6)
noncomputable def S8 : List It := (.code (sub B [1, 1, 1, 1, 0, 1, 0, 0, 1, 1, 1]) :: S6)
noncomputable def S24 : List It := (.code (sub B [1, 1, 1, 1, 1, 1, 0, 1, 0, 0, 1, 1]) :: S23)
noncomputable def S25 : List It := (.code (sub B [1, 1, 1, 1, 1, 1, 0, 1, 0, 0, 1, 1, 1]) :: S23)
noncomputable def S9 : List It := (.blk 1 :: S8)
noncomputable def S26 : List It := (.blk 4 :: S25)
noncomputable def S10 : List It := (.code (sub B [1, 1, 1, 1, 0, 1, 0, 0, 1, 1, 0, 0, 1]) :: S9)
noncomputable def S11 : List It := (.code (sub B [1, 1, 1, 1, 0, 1, 0, 0, 1, 1, 0, 0, 1, 1]) :: S9)
noncomputable def S16 : List It := (.code (sub B [1, 1, 1, 1, 0, 1, 0, 0, 1, 1, 0, 0, 1, 1, 1]) :: S9)
noncomputable def S27 : List It := (.code (sub B [1, 1, 1, 1, 1, 1, 0, 1, 0, 0, 1, 1, 0, 0, 1]) :: S26)
noncomputable def S28 : List It := (.code (sub B [1, 1, 1, 1, 1, 1, 0, 1, 0, 0, 1, 1, 0, 0, 1, 1, 1]) :: S26)
noncomputable def S32 : List It := (.code (sub B [1, 1, 1, 1, 1, 1, 0, 1, 0, 0, 1, 1, 0, 0, 1, 1, 1, 1]) :: S26)
noncomputable def S12 : List It := (.code (sub B [1, 1, 1, 1, 0, 1, 0, 0, 1, 1, 0, 0, 1, 0, 1]) :: S11)
noncomputable def S13 : List It := (.blk 2 :: S11)
noncomputable def S29 : List It := (.code (sub B [1, 1, 1, 1, 1, 1, 0, 1, 0, 0, 1, 1, 0, 0, 1, 1, 0, 1]) :: S28)
noncomputable def S30 : List It := (.blk 5 :: S28)
noncomputable def S38 : List It := (.reg (opsAt (sub B [1, 1, 1, 1, 0, 1, 0, 0, 1, 1, 0, 0, 1, 1, 0])) [0, 1, 2, 3, 4, 5, 6, 7, 8, 9, 10, 11, 12] :: S16)
noncomputable def S39 : List It := (.reg (opsAt (sub B [1, 1, 1, 1, 1, 1, 0, 1, 0, 0, 1, 1, 0, 0, 1, 1, 1, 0])) [0, 1] :: S32)
noncomputable def S14 : List It := (.code (sub B [1, 1, 1, 1, 0, 1, 0, 0, 1, 1, 0, 0, 1, 0, 1, 0, 1]) :: S13)
noncomputable def S15 : List It := (.code (sub B [1, 1, 1, 1, 0, 1, 0, 0, 1, 1, 0, 0, 1, 0, 1, 0, 1, 0, 1]) :: S13)
noncomputable def S17 : List It := (.code (sub B [1, 1, 1, 1, 0, 1, 0, 0, 1, 1, 0, 0, 1, 0, 1, 0, 1, 1, 1]) :: S13)
noncomputable def S18 : List It := (.code (sub B [1, 1, 1, 1, 0, 1, 0, 0, 1, 1, 0, 0, 1, 0, 1, 0, 1, 1, 1, 0, 1]) :: S13)
noncomputable def S19 : List It := (.code (sub B [1, 1, 1, 1, 0, 1, 0, 0, 1, 1, 0, 0, 1, 0, 1, 0, 1, 1, 1, 1, 1]) :: S13)
noncomputable def S31 : List It := (.code (sub B [1, 1, 1, 1, 1, 1, 0, 1, 0, 0, 1, 1, 0, 0, 1, 1, 0, 1, 0, 1]) :: S30)
noncomputable def S33 : List It := (.code (sub B [1, 1, 1, 1, 1, 1, 0, 1, 0, 0, 1, 1, 0, 0, 1, 1, 0, 1, 0, 1, 1, 1]) :: S30)
def L0 (t0a : Option Addr) (t0n : Nat) (t0k : Nat) (t3b : Nat) (t3o : Nat) (t4 : Int) (t19a : Option Addr) (t19n : Nat) (t19k : Nat) (t20 : Int) (t21 : Int) (H : Heap) (r : Value × Heap) : Prop := ∀ J, KR Try.prog good Try.f10 S6 (mat J 135 [(0, .slice t0a t0n t0k), (3, .pointer (some ⟨t3b, t3o, none⟩)), (4, .int .i64 t4), (19, .slice t19a t19n t19k), (20, .int .i64 t20), (21, .int .i64 t21)]) H r
def L1 (t0a : Option Addr) (t0n : Nat) (t0k : Nat) (t3b : Nat) (t3o : Nat) (t4 : Int) (t19b : Nat) (t19o : Nat) (t19n : Nat) (t19k : Nat) (t20 : Int) (t21 : Int) (H : Heap) (r : Value × Heap) : Prop := ∀ J, KR Try.prog good Try.f10 S38 (mat J 135 [(0, .slice t0a t0n t0k), (3, .pointer (some ⟨t3b, t3o, none⟩)), (4, .int .i64 t4), (19, .slice (some ⟨t19b, t19o, none⟩) t19n t19k), (20, .int .i64 t20), (21, .int .i64 t21)]) H r
def L2 (t4 : Int) (t8 : Option Addr) (t77a : Option Addr) (t77n : Nat) (t77k : Nat) (t78 : Int) (t79 : Int) (H : Heap) (r : Value × Heap) : Prop := ∀ J, KR Try.prog good Try.f10 S23 (mat J 135 [(4, .int .i64 t4), (8, .pointer t8), (77, .slice t77a t77n t77k), (78, .int .i64 t78), (79, .int .i64 t79)]) H r
def L3 (t0a : Option Addr) (t0n : Nat) (t0k : Nat) (t3b : Nat) (t3o : Nat) (t4 : Int) (t19b : Nat) (t19o : Nat) (t19n : Nat) (t19k : Nat) (t20 : Int) (t21 : Int) (t72 : Bool) (H : Heap) (r : Value × Heap) : Prop := ∀ J, KR Try.prog good Try.f10 S16 (mat J 135 [(0, .slice t0a t0n t0k), (3, .pointer (some ⟨t3b, t3o, none⟩)), (4, .int .i64 t4), (19, .slice (some ⟨t19b, t19o, none⟩) t19n t19k), (20, .int .i64 t20), (21, .int .i64 t21), (72, .bool t72)]) H r
def L4 (t4 : Int) (t8 : Option Addr) (t11 : Bool) (t77b : Nat) (t77o : Nat) (t77n : Nat) (t77k : Nat) (t78 : Int) (t79 : Int) (H : Heap) (r : Value × Heap) : Prop := ∀ J, KR Try.prog good Try.f10 S39 (mat J 135 [(4, .int .i64 t4), (8, .pointer t8), (11, .bool t11), (77, .slice (some ⟨t77b, t77o, none⟩) t77n t77k), (78, .int .i64 t78), (79, .int .i64 t79)]) H r
theorem L0_step {t0a : Option Addr} {t0n : Nat} {t0k : Nat} {t3b : Nat} {t3o : Nat} {t4 : Int} {t19a : Option Addr} {t19n : Nat} {t19k : Nat} {t20 : Int} {t21 : Int} {H : Heap} {r : Value × Heap} (h :
    if t21 < t20 then
    (∃ (t19ab t19ao : Nat), t19a = some ⟨t19ab, t19ao, none⟩ ∧
    ((0 : Int) ≤ t21 ∧ t21 < ((t19n : Nat) : Int) ∧
    (∃ (t24c0 : Int) (t24c1 : Int) (t24c2 : Bool) (t24c3 : Bool) (t24c4a : Option Addr) (t24c4n : Nat) (t24c4k : Nat), ldAll H t19ab (t19ao + Int.toNat t21 * 5) [.int .u64 t24c0, .int .i64 t24c1, .bool t24c2, .bool t24c3, .slice t24c4a t24c4n t24c4k] ∧
    (∃ (H_1 : Heap), H_1 = H.push (.row [.int .u64 0, .int .i64 0, .bool false, .bool false, .slice none 0 0] true) ∧
    (∃ (H_2 : Heap), stc H_1 H.next 0 [.int .u64 t24c0, .int .i64 t24c1, .bool t24c2, .bool t24c3, .slice t24c4a t24c4n t24c4k] = some H_2 ∧
    (∃ (t26 : Int), ldc H_2 H.next 1 = some (.int .i64 t26) ∧
    (∃ (t40 : Bool), ldc H_2 H.next 2 = some (.bool t40) ∧
    (if t40 = true then
    (∃ (t43a : Option Addr) (t43n : Nat) (t43k : Nat), ldc H_2 H.next 4 = some (.slice t43a t43n t43k) ∧
    (∃ (H_3 : Heap), xC Try.prog good 39 [.pointer (some ⟨t3b, t3o, none⟩), .slice t43a t43n t43k] H_2 = some (.tuple #[], H_3) ∧
    (∃ (t47a : Option Addr) (t47n : Nat) (t47k : Nat), ldc H_3 H.next 4 = some (.slice t47a t47n t47k) ∧
    (L1 (t0a) (t0n) (t0k) (t3b) (t3o) ((IntKind.wrap .i64 (t4 + (IntKind.wrap .i64 (8 * ((t47n : Nat) : Int)))))) (t19ab) (t19ao) (t19n) (t19k) (t20) (t21) H_3 r))))
    else
    (∃ (t53 : Bool), ldc H_2 H.next 3 = some (.bool t53) ∧
    (if t53 = true then
    (∃ (H_4 : Heap), xC Try.prog good 40 [.pointer (some ⟨t3b, t3o, none⟩)] H_2 = some (.tuple #[], H_4) ∧
    (L1 (t0a) (t0n) (t0k) (t3b) (t3o) ((IntKind.wrap .i64 ((IntKind.wrap .i64 (Int.tdiv (IntKind.wrap .i64 (t4 + 7)) 8)) * 8))) (t19ab) (t19ao) (t19n) (t19k) (t20) (t21) H_4 r))
    else
    (∃ (t32 : Int), ldc H_2 H.next 0 = some (.int .u64 t32) ∧
    (∃ (H_5 : Heap), xC Try.prog good 14 [.pointer (some ⟨t3b, t3o, none⟩), .int .u64 t32, .int .i64 (IntKind.wrap .i64 (Int.tmod (IntKind.wrap .u64 t26) 65))] H_2 = some (.tuple #[], H_5) ∧
    (L1 (t0a) (t0n) (t0k) (t3b) (t3o) ((IntKind.wrap .i64 (t4 + (IntKind.wrap .i64 (Int.tmod (IntKind.wrap .u64 t26) 65))))) (t19ab) (t19ao) (t19n) (t19k) (t20) (t21) H_5 r)))))))))))))
    else
    (∃ (t75a : Option Addr) (t75n : Nat) (t75k : Nat) (H_6 : Heap), xC Try.prog good 16 [.pointer (some ⟨t3b, t3o, none⟩)] H = some (.slice t75a t75n t75k, H_6) ∧
    (∃ (t76 : Option Addr) (H_7 : Heap), xC Try.prog good 17 [.slice t75a t75n t75k] H_6 = some (.pointer t76, H_7) ∧
    (L2 (t4) (t76) (t0a) (t0n) (t0k) (((t0n : Nat) : Int)) 0 H_7 r)))) :
    L0 t0a t0n t0k t3b t3o t4 t19a t19n t19k t20 t21 H r := by
  intro J
  show KR _ _ _ (.lp (sub B [1, 1, 1, 1, 0, 1, 0, 0]) :: S4) _ _ _
  refine KR.run 6 [(0, .slice t0a t0n t0k), (3, .pointer (some ⟨t3b, t3o, none⟩)), (4, .int .i64 t4), (19, .slice t19a t19n t19k), (20, .int .i64 t20), (21, .int .i64 t21), (22, .bool (decide (t21 < t20)))] 135 (s' := (.code (sub B [1, 1, 1, 1, 0, 1, 0, 0, 1, 0]) :: S7)) (by kernel_rfl) fun J => ?_
  by_cases c5 : t21 < t20
  · replace h := iteT c5 h
    refine KR.br true (by kernel_rfl) (vB (dT c5)) ?_
    obtain ⟨t19ab, t19ao, rfl, h⟩ := h
    refine KR.run 5 [(0, .slice t0a t0n t0k), (3, .pointer (some ⟨t3b, t3o, none⟩)), (4, .int .i64 t4), (19, .slice (some ⟨t19ab, t19ao, none⟩) t19n t19k), (20, .int .i64 t20), (21, .int .i64 t21)] 135 (s' := (.reg (opsAt (sub B [1, 1, 1, 1, 0, 1, 0, 0, 1, 1, 0, 0, 0])) [0, 1, 2, 3] :: S10)) (by kernel_rfl) fun J => ?_
    obtain ⟨q6, q6x, h⟩ := h
    refine KR.p (one_ix 5 t19ab t19ao (by kernel_rfl) q6 q6x) ?_
    obtain ⟨t24c0, t24c1, t24c2, t24c3, t24c4a, t24c4n, t24c4k, q7, h⟩ := h
    refine KR.rd (one_ldA (by kernel_rfl) q7) ?_
    obtain ⟨H_1, q8, h⟩ := h
    refine KR.mk (w := pRow [.int .u64 0, .int .i64 0, .bool false, .bool false, .slice none 0 0]) (one_al (by kernel_rfl)) q8 ?_
    obtain ⟨H_2, q9, h⟩ := h
    refine KR.se (one_st (by kernel_rfl) q9) ?_
    refine KR.run 5 [(0, .slice t0a t0n t0k), (3, .pointer (some ⟨t3b, t3o, none⟩)), (4, .int .i64 t4), (6, .pointer (some ⟨H.next, 0, none⟩)), (19, .slice (some ⟨t19ab, t19ao, none⟩) t19n t19k), (20, .int .i64 t20), (21, .int .i64 t21), (25, .pointer (some ⟨H.next, 1, none⟩))] 135 (s' := (.reg (opsAt (sub B [1, 1, 1, 1, 0, 1, 0, 0, 1, 1, 0, 0, 1, 0, 0])) [1, 2, 3, 4, 5] :: S12)) (by kernel_rfl) fun J => ?_
    obtain ⟨t26, q10, h⟩ := h
    refine KR.rd (one_ld (by kernel_rfl) q10) ?_
    refine KR.run 9 [(0, .slice t0a t0n t0k), (3, .pointer (some ⟨t3b, t3o, none⟩)), (4, .int .i64 t4), (6, .pointer (some ⟨H.next, 0, none⟩)), (7, .int .i64 (IntKind.wrap .i64 (Int.tmod (IntKind.wrap .u64 t26) 65))), (19, .slice (some ⟨t19ab, t19ao, none⟩) t19n t19k), (20, .int .i64 t20), (21, .int .i64 t21), (39, .pointer (some ⟨H.next, 2, none⟩))] 135 (s' := (.reg (opsAt (sub B [1, 1, 1, 1, 0, 1, 0, 0, 1, 1, 0, 0, 1, 0, 1, 0, 0])) [1, 2] :: S14)) (by kernel_rfl) fun J => ?_
    obtain ⟨t40, q11, h⟩ := h
    refine KR.rd (one_ld (by kernel_rfl) q11) ?_
    refine KR.run 2 [(0, .slice t0a t0n t0k), (3, .pointer (some ⟨t3b, t3o, none⟩)), (4, .int .i64 t4), (6, .pointer (some ⟨H.next, 0, none⟩)), (7, .int .i64 (IntKind.wrap .i64 (Int.tmod (IntKind.wrap .u64 t26) 65))), (19, .slice (some ⟨t19ab, t19ao, none⟩) t19n t19k), (20, .int .i64 t20), (21, .int .i64 t21), (38, .bool t40)] 135 (s' := (.code (sub B [1, 1, 1, 1, 0, 1, 0, 0, 1, 1, 0, 0, 1, 0, 1, 0, 1]) :: S13)) (by kernel_rfl) fun J => ?_
    by_cases c12 : t40 = true
    · replace h := iteT c12 h
      refine KR.br true (by kernel_rfl) (vB (bT c12)) ?_
      refine KR.run 4 [(0, .slice t0a t0n t0k), (3, .pointer (some ⟨t3b, t3o, none⟩)), (4, .int .i64 t4), (6, .pointer (some ⟨H.next, 0, none⟩)), (19, .slice (some ⟨t19ab, t19ao, none⟩) t19n t19k), (20, .int .i64 t20), (21, .int .i64 t21), (41, .pointer (some ⟨t3b, t3o, none⟩)), (42, .pointer (some ⟨H.next, 4, none⟩))] 135 (s' := (.reg (opsAt (sub B [1, 1, 1, 1, 0, 1, 0, 0, 1, 1, 0, 0, 1, 0, 1, 0, 1, 0, 0])) [2, 3] :: S15)) (by kernel_rfl) fun J => ?_
      obtain ⟨t43a, t43n, t43k, q13, h⟩ := h
      refine KR.rd (one_ld (by kernel_rfl) q13) ?_
      obtain ⟨H_3, q14, h⟩ := h
      refine KR.se (one_ca (by kernel_rfl) q14) ?_
      refine KR.run 4 [(0, .slice t0a t0n t0k), (3, .pointer (some ⟨t3b, t3o, none⟩)), (19, .slice (some ⟨t19ab, t19ao, none⟩) t19n t19k), (20, .int .i64 t20), (21, .int .i64 t21), (45, .int .i64 t4), (46, .pointer (some ⟨H.next, 4, none⟩))] 135 (s' := (.reg (opsAt (sub B [1, 1, 1, 1, 0, 1, 0, 0, 1, 1, 0, 0, 1, 0, 1, 0, 1, 0, 1])) [2, 3, 4, 5, 6] :: S13)) (by kernel_rfl) fun J => ?_
      obtain ⟨t47a, t47n, t47k, q15, h⟩ := h
      refine KR.rd (one_ld (by kernel_rfl) q15) ?_
      exact KR.run 8 [(0, .slice t0a t0n t0k), (3, .pointer (some ⟨t3b, t3o, none⟩)), (4, .int .i64 (IntKind.wrap .i64 (t4 + (IntKind.wrap .i64 (8 * ((t47n : Nat) : Int)))))), (19, .slice (some ⟨t19ab, t19ao, none⟩) t19n t19k), (20, .int .i64 t20), (21, .int .i64 t21)] 135 (s' := (.reg (opsAt (sub B [1, 1, 1, 1, 0, 1, 0, 0, 1, 1, 0, 0, 1, 1, 0])) [0, 1, 2, 3, 4, 5, 6, 7, 8, 9, 10, 11, 12] :: S16)) (by kernel_rfl) h
    · replace h := iteF c12 h
      refine KR.br false (by kernel_rfl) (vB (bF c12)) ?_
      refine KR.run 3 [(0, .slice t0a t0n t0k), (3, .pointer (some ⟨t3b, t3o, none⟩)), (4, .int .i64 t4), (6, .pointer (some ⟨H.next, 0, none⟩)), (7, .int .i64 (IntKind.wrap .i64 (Int.tmod (IntKind.wrap .u64 t26) 65))), (19, .slice (some ⟨t19ab, t19ao, none⟩) t19n t19k), (20, .int .i64 t20), (21, .int .i64 t21), (52, .pointer (some ⟨H.next, 3, none⟩))] 135 (s' := (.reg (opsAt (sub B [1, 1, 1, 1, 0, 1, 0, 0, 1, 1, 0, 0, 1, 0, 1, 0, 1, 1, 0])) [1, 2] :: S17)) (by kernel_rfl) fun J => ?_
      obtain ⟨t53, q16, h⟩ := h
      refine KR.rd (one_ld (by kernel_rfl) q16) ?_
      refine KR.run 2 [(0, .slice t0a t0n t0k), (3, .pointer (some ⟨t3b, t3o, none⟩)), (4, .int .i64 t4), (6, .pointer (some ⟨H.next, 0, none⟩)), (7, .int .i64 (IntKind.wrap .i64 (Int.tmod (IntKind.wrap .u64 t26) 65))), (19, .slice (some ⟨t19ab, t19ao, none⟩) t19n t19k), (20, .int .i64 t20), (21, .int .i64 t21), (51, .bool t53)] 135 (s' := (.code (sub B [1, 1, 1, 1, 0, 1, 0, 0, 1, 1, 0, 0, 1, 0, 1, 0, 1, 1, 1]) :: S13)) (by kernel_rfl) fun J => ?_
      by_cases c17 : t53 = true
      · replace h := iteT c17 h
        refine KR.br true (by kernel_rfl) (vB (bT c17)) ?_
        refine KR.run 3 [(0, .slice t0a t0n t0k), (3, .pointer (some ⟨t3b, t3o, none⟩)), (4, .int .i64 t4), (19, .slice (some ⟨t19ab, t19ao, none⟩) t19n t19k), (20, .int .i64 t20), (21, .int .i64 t21), (54, .pointer (some ⟨t3b, t3o, none⟩))] 135 (s' := (.reg (opsAt (sub B [1, 1, 1, 1, 0, 1, 0, 0, 1, 1, 0, 0, 1, 0, 1, 0, 1, 1, 1, 0, 0])) [1] :: S18)) (by kernel_rfl) fun J => ?_
        obtain ⟨H_4, q18, h⟩ := h
        refine KR.se (one_ca (by kernel_rfl) q18) ?_
        exact KR.run 11 [(0, .slice t0a t0n t0k), (3, .pointer (some ⟨t3b, t3o, none⟩)), (4, .int .i64 (IntKind.wrap .i64 ((IntKind.wrap .i64 (Int.tdiv (IntKind.wrap .i64 (t4 + 7)) 8)) * 8))), (19, .slice (some ⟨t19ab, t19ao, none⟩) t19n t19k), (20, .int .i64 t20), (21, .int .i64 t21)] 135 (s' := (.reg (opsAt (sub B [1, 1, 1, 1, 0, 1, 0, 0, 1, 1, 0, 0, 1, 1, 0])) [0, 1, 2, 3, 4, 5, 6, 7, 8, 9, 10, 11, 12] :: S16)) (by kernel_rfl) h
      · replace h := iteF c17 h
        refine KR.br false (by kernel_rfl) (vB (bF c17)) ?_
        refine KR.run 4 [(0, .slice t0a t0n t0k), (3, .pointer (some ⟨t3b, t3o, none⟩)), (4, .int .i64 t4), (7, .int .i64 (IntKind.wrap .i64 (Int.tmod (IntKind.wrap .u64 t26) 65))), (19, .slice (some ⟨t19ab, t19ao, none⟩) t19n t19k), (20, .int .i64 t20), (21, .int .i64 t21), (30, .pointer (some ⟨t3b, t3o, none⟩)), (31, .pointer (some ⟨H.next, 0, none⟩))] 135 (s' := (.reg (opsAt (sub B [1, 1, 1, 1, 0, 1, 0, 0, 1, 1, 0, 0, 1, 0, 1, 0, 1, 1, 1, 1, 0])) [2, 3, 4] :: S19)) (by kernel_rfl) fun J => ?_
        obtain ⟨t32, q19, h⟩ := h
        refine KR.rd (one_ld (by kernel_rfl) q19) ?_
        refine KR.run 1 [(0, .slice t0a t0n t0k), (3, .pointer (some ⟨t3b, t3o, none⟩)), (4, .int .i64 t4), (7, .int .i64 (IntKind.wrap .i64 (Int.tmod (IntKind.wrap .u64 t26) 65))), (19, .slice (some ⟨t19ab, t19ao, none⟩) t19n t19k), (20, .int .i64 t20), (21, .int .i64 t21), (30, .pointer (some ⟨t3b, t3o, none⟩)), (32, .int .u64 t32), (33, .int .i64 (IntKind.wrap .i64 (Int.tmod (IntKind.wrap .u64 t26) 65)))] 135 (s' := (.reg (opsAt (sub B [1, 1, 1, 1, 0, 1, 0, 0, 1, 1, 0, 0, 1, 0, 1, 0, 1, 1, 1, 1, 0])) [4] :: S19)) (by kernel_rfl) fun J => ?_
        obtain ⟨H_5, q20, h⟩ := h
        refine KR.se (one_ca (by kernel_rfl) q20) ?_
        exact KR.run 10 [(0, .slice t0a t0n t0k), (3, .pointer (some ⟨t3b, t3o, none⟩)), (4, .int .i64 (IntKind.wrap .i64 (t4 + (IntKind.wrap .i64 (Int.tmod (IntKind.wrap .u64 t26) 65))))), (19, .slice (some ⟨t19ab, t19ao, none⟩) t19n t19k), (20, .int .i64 t20), (21, .int .i64 t21)] 135 (s' := (.reg (opsAt (sub B [1, 1, 1, 1, 0, 1, 0, 0, 1, 1, 0, 0, 1, 1, 0])) [0, 1, 2, 3, 4, 5, 6, 7, 8, 9, 10, 11, 12] :: S16)) (by kernel_rfl) h
  · replace h := iteF c5 h
    refine KR.br false (by kernel_rfl) (vB (dF c5)) ?_
    refine KR.run 4 [(0, .slice t0a t0n t0k), (4, .int .i64 t4), (74, .pointer (some ⟨t3b, t3o, none⟩))] 135 (s' := (.reg (opsAt (sub B [1, 1, 1, 1, 1, 0])) [1, 2, 3] :: S20)) (by kernel_rfl) fun J => ?_
    obtain ⟨t75a, t75n, t75k, H_6, q21, h⟩ := h
    refine KR.se (one_ca (by kernel_rfl) q21) ?_
    obtain ⟨t76, H_7, q22, h⟩ := h
    refine KR.se (one_ca (by kernel_rfl) q22) ?_
    exact KR.run 11 [(4, .int .i64 t4), (8, .pointer t76), (77, .slice t0a t0n t0k), (78, .int .i64 ((t0n : Nat) : Int)), (79, .int .i64 0)] 135 (s' := (.lp (sub B [1, 1, 1, 1, 1, 1, 0, 1, 0, 0]) :: S22)) (by kernel_rfl) h
theorem L1_step {t0a : Option Addr} {t0n : Nat} {t0k : Nat} {t3b : Nat} {t3o : Nat} {t4 : Int} {t19b : Nat} {t19o : Nat} {t19n : Nat} {t19k : Nat} {t20 : Int} {t21 : Int} {H : Heap} {r : Value × Heap} (h :
    ∃ (t61 : Int) (H_1 : Heap), xC Try.prog good 15 [.pointer (some ⟨t3b, t3o, none⟩)] H = some (.int .i64 t61, H_1) ∧
    (if t61 = t4 then
    (∃ (t66a : Option Addr) (t66n : Nat) (t66k : Nat) (H_2 : Heap), xC Try.prog good 16 [.pointer (some ⟨t3b, t3o, none⟩)] H_1 = some (.slice t66a t66n t66k, H_2) ∧
    (L3 (t0a) (t0n) (t0k) (t3b) (t3o) (t4) (t19b) (t19o) (t19n) (t19k) (t20) (t21) ((!(((t66n : Nat) : Int) == (IntKind.wrap .i64 (Int.tdiv (IntKind.wrap .i64 (t4 + 7)) 8))))) H_2 r))
    else
    (L3 (t0a) (t0n) (t0k) (t3b) (t3o) (t4) (t19b) (t19o) (t19n) (t19k) (t20) (t21) (true) H_1 r))) :
    L1 t0a t0n t0k t3b t3o t4 t19b t19o t19n t19k t20 t21 H r := by
  intro J
  show KR _ _ _ (.reg (opsAt (sub B [1, 1, 1, 1, 0, 1, 0, 0, 1, 1, 0, 0, 1, 1, 0])) [0, 1, 2, 3, 4, 5, 6, 7, 8, 9, 10, 11, 12] :: S16) _ _ _
  refine KR.run 1 [(0, .slice t0a t0n t0k), (3, .pointer (some ⟨t3b, t3o, none⟩)), (4, .int .i64 t4), (19, .slice (some ⟨t19b, t19o, none⟩) t19n t19k), (20, .int .i64 t20), (21, .int .i64 t21), (60, .pointer (some ⟨t3b, t3o, none⟩))] 135 (s' := (.reg (opsAt (sub B [1, 1, 1, 1, 0, 1, 0, 0, 1, 1, 0, 0, 1, 1, 0])) [1, 2, 3, 4, 5, 6, 7, 8, 9, 10, 11, 12] :: S16)) (by kernel_rfl) fun J => ?_
  obtain ⟨t61, H_1, q23, h⟩ := h
  refine KR.se (one_ca (by kernel_rfl) q23) ?_
  refine KR.run 3 [(0, .slice t0a t0n t0k), (3, .pointer (some ⟨t3b, t3o, none⟩)), (4, .int .i64 t4), (19, .slice (some ⟨t19b, t19o, none⟩) t19n t19k), (20, .int .i64 t20), (21, .int .i64 t21), (64, .bool (!(t61 == t4)))] 135 (s' := (.reg (opsAt (sub B [1, 1, 1, 1, 0, 1, 0, 0, 1, 1, 0, 0, 1, 1, 0])) [5, 6, 7, 8, 9, 10, 11, 12] :: S16)) (by kernel_rfl) fun J => ?_
  by_cases c24 : t61 = t4
  · replace h := iteT c24 h
    refine KR.setV 64 (by kernel_rfl) (nB (eT c24)) ?_
    refine KR.run 1 [(0, .slice t0a t0n t0k), (3, .pointer (some ⟨t3b, t3o, none⟩)), (4, .int .i64 t4), (19, .slice (some ⟨t19b, t19o, none⟩) t19n t19k), (20, .int .i64 t20), (21, .int .i64 t21), (64, .bool false), (65, .pointer (some ⟨t3b, t3o, none⟩))] 135 (s' := (.reg (opsAt (sub B [1, 1, 1, 1, 0, 1, 0, 0, 1, 1, 0, 0, 1, 1, 0])) [6, 7, 8, 9, 10, 11, 12] :: S16)) (by kernel_rfl) fun J => ?_
    obtain ⟨t66a, t66n, t66k, H_2, q25, h⟩ := h
    refine KR.se (one_ca (by kernel_rfl) q25) ?_
    exact KR.run 7 [(0, .slice t0a t0n t0k), (3, .pointer (some ⟨t3b, t3o, none⟩)), (4, .int .i64 t4), (19, .slice (some ⟨t19b, t19o, none⟩) t19n t19k), (20, .int .i64 t20), (21, .int .i64 t21), (72, .bool (!(((t66n : Nat) : Int) == (IntKind.wrap .i64 (Int.tdiv (IntKind.wrap .i64 (t4 + 7)) 8)))))] 135 (s' := (.code (sub B [1, 1, 1, 1, 0, 1, 0, 0, 1, 1, 0, 0, 1, 1, 1]) :: S9)) (by kernel_rfl) h
  · replace h := iteF c24 h
    refine KR.setV 64 (by kernel_rfl) (nB (eF c24)) ?_
    exact KR.run 9 [(0, .slice t0a t0n t0k), (3, .pointer (some ⟨t3b, t3o, none⟩)), (4, .int .i64 t4), (19, .slice (some ⟨t19b, t19o, none⟩) t19n t19k), (20, .int .i64 t20), (21, .int .i64 t21), (72, .bool true)] 135 (s' := (.code (sub B [1, 1, 1, 1, 0, 1, 0, 0, 1, 1, 0, 0, 1, 1, 1]) :: S9)) (by kernel_rfl) h
theorem L2_step {t4 : Int} {t8 : Option Addr} {t77a : Option Addr} {t77n : Nat} {t77k : Nat} {t78 : Int} {t79 : Int} {H : Heap} {r : Value × Heap} (h :
    if t79 < t78 then
    (∃ (t77ab t77ao : Nat), t77a = some ⟨t77ab, t77ao, none⟩ ∧
    ((0 : Int) ≤ t79 ∧ t79 < ((t77n : Nat) : Int) ∧
    (∃ (t82c0 : Int) (t82c1 : Int) (t82c2 : Bool) (t82c3 : Bool) (t82c4a : Option Addr) (t82c4n : Nat) (t82c4k : Nat), ldAll H t77ab (t77ao + Int.toNat t79 * 5) [.int .u64 t82c0, .int .i64 t82c1, .bool t82c2, .bool t82c3, .slice t82c4a t82c4n t82c4k] ∧
    (∃ (H_1 : Heap), H_1 = H.push (.row [.int .u64 0, .int .i64 0, .bool false, .bool false, .slice none 0 0] true) ∧
    (∃ (H_2 : Heap), stc H_1 H.next 0 [.int .u64 t82c0, .int .i64 t82c1, .bool t82c2, .bool t82c3, .slice t82c4a t82c4n t82c4k] = some H_2 ∧
    (∃ (t84 : Int), ldc H_2 H.next 1 = some (.int .i64 t84) ∧
    (∃ (t101 : Bool), ldc H_2 H.next 2 = some (.bool t101) ∧
    (if t101 = true then
    (∃ (t104a : Option Addr) (t104n : Nat) (t104k : Nat), ldc H_2 H.next 4 = some (.slice t104a t104n t104k) ∧
    (∃ (t106a : Option Addr) (t106n : Nat) (t106k : Nat) (H_3 : Heap), xC Try.prog good 31 [.pointer t8, .int .i64 ((t104n : Nat) : Int)] H_2 = some (.slice t106a t106n t106k, H_3) ∧
    (∃ (t107 : ByteArray), pstrb H_3 t106a t106n = some t107 ∧
    (∃ (t109a : Option Addr) (t109n : Nat) (t109k : Nat), ldc H_2 H.next 4 = some (.slice t109a t109n t109k) ∧
    (∃ (t110 : ByteArray), pstrb H_2 t109a t109n = some t110 ∧
    (ldc H_3 H.next 4 = some (.slice t109a t109n t109k) ∧
    pstrb H_3 t109a t109n = some t110 ∧
    (L4 (t4) (t8) ((t107.toList == t110.toList)) (t77ab) (t77ao) (t77n) (t77k) (t78) (t79) H_3 r)))))))
    else
    (∃ (t114 : Bool), ldc H_2 H.next 3 = some (.bool t114) ∧
    (if t114 = true then
    (∃ (H_4 : Heap), xC Try.prog good 33 [.pointer t8] H_2 = some (.tuple #[], H_4) ∧
    (L4 (t4) (t8) (true) (t77ab) (t77ao) (t77n) (t77k) (t78) (t79) H_4 r))
    else
    (∃ (t90 : Int) (H_5 : Heap), xC Try.prog good 18 [.pointer t8, .int .i64 (IntKind.wrap .i64 (Int.tmod (IntKind.wrap .u64 t84) 65))] H_2 = some (.int .u64 t90, H_5) ∧
    (∃ (t92 : Int), ldc H_2 H.next 0 = some (.int .u64 t92) ∧
    ((0 : Int) ≤ (IntKind.wrap .u64 (IntKind.wrap .i64 (Int.tmod (IntKind.wrap .u64 t84) 65))) ∧
    (ldc H_5 H.next 0 = some (.int .u64 t92) ∧
    (L4 (t4) (t8) ((t90 == (iand .u64 t92 (IntKind.wrap .u64 ((ishl .u64 1 (IntKind.wrap .u64 (IntKind.wrap .i64 (Int.tmod (IntKind.wrap .u64 t84) 65)))) - 1))))) (t77ab) (t77ao) (t77n) (t77k) (t78) (t79) H_5 r)))))))))))))))
    else
    (∃ (t121 : Int) (H_6 : Heap), xC Try.prog good 36 [.pointer t8] H = some (.int .i64 t121, H_6) ∧
    (if t121 = (Int.tmod (IntKind.wrap .i64 (8 - (Int.tmod t4 8))) 8) then
    (∃ (H_7 : Heap), xC Try.prog good 33 [.pointer t8] H_6 = some (.tuple #[], H_7) ∧
    (∃ (t130 : Int) (H_8 : Heap), xC Try.prog good 37 [.pointer t8] H_7 = some (.int .i64 t130, H_8) ∧
    (if t130 = 0 then
    (∃ (t133 : Bool) (H_9 : Heap), xC Try.prog good 19 [] H_8 = some (.bool t133, H_9) ∧
    (r = (.bool t133, H_9)))
    else
    (r = (.bool false, H_8)))))
    else
    (r = (.bool false, H_6))))) :
    L2 t4 t8 t77a t77n t77k t78 t79 H r := by
  intro J
  show KR _ _ _ (.lp (sub B [1, 1, 1, 1, 1, 1, 0, 1, 0, 0]) :: S22) _ _ _
  refine KR.run 6 [(4, .int .i64 t4), (8, .pointer t8), (77, .slice t77a t77n t77k), (78, .int .i64 t78), (79, .int .i64 t79), (80, .bool (decide (t79 < t78)))] 135 (s' := (.code (sub B [1, 1, 1, 1, 1, 1, 0, 1, 0, 0, 1, 0]) :: S24)) (by kernel_rfl) fun J => ?_
  by_cases c26 : t79 < t78
  · replace h := iteT c26 h
    refine KR.br true (by kernel_rfl) (vB (dT c26)) ?_
    obtain ⟨t77ab, t77ao, rfl, h⟩ := h
    refine KR.run 5 [(4, .int .i64 t4), (8, .pointer t8), (77, .slice (some ⟨t77ab, t77ao, none⟩) t77n t77k), (78, .int .i64 t78), (79, .int .i64 t79)] 135 (s' := (.reg (opsAt (sub B [1, 1, 1, 1, 1, 1, 0, 1, 0, 0, 1, 1, 0, 0, 0])) [0, 1, 2, 3] :: S27)) (by kernel_rfl) fun J => ?_
    obtain ⟨q27, q27x, h⟩ := h
    refine KR.p (one_ix 5 t77ab t77ao (by kernel_rfl) q27 q27x) ?_
    obtain ⟨t82c0, t82c1, t82c2, t82c3, t82c4a, t82c4n, t82c4k, q28, h⟩ := h
    refine KR.rd (one_ldA (by kernel_rfl) q28) ?_
    obtain ⟨H_1, q29, h⟩ := h
    refine KR.mk (w := pRow [.int .u64 0, .int .i64 0, .bool false, .bool false, .slice none 0 0]) (one_al (by kernel_rfl)) q29 ?_
    obtain ⟨H_2, q30, h⟩ := h
    refine KR.se (one_st (by kernel_rfl) q30) ?_
    refine KR.run 9 [(4, .int .i64 t4), (8, .pointer t8), (10, .pointer (some ⟨H.next, 0, none⟩)), (11, .bool true), (77, .slice (some ⟨t77ab, t77ao, none⟩) t77n t77k), (78, .int .i64 t78), (79, .int .i64 t79), (83, .pointer (some ⟨H.next, 1, none⟩))] 135 (s' := (.reg (opsAt (sub B [1, 1, 1, 1, 1, 1, 0, 1, 0, 0, 1, 1, 0, 0, 1, 1, 0, 0])) [1, 2, 3, 4, 5] :: S29)) (by kernel_rfl) fun J => ?_
    obtain ⟨t84, q31, h⟩ := h
    refine KR.rd (one_ld (by kernel_rfl) q31) ?_
    refine KR.run 9 [(4, .int .i64 t4), (8, .pointer t8), (10, .pointer (some ⟨H.next, 0, none⟩)), (11, .bool true), (12, .int .i64 (IntKind.wrap .i64 (Int.tmod (IntKind.wrap .u64 t84) 65))), (77, .slice (some ⟨t77ab, t77ao, none⟩) t77n t77k), (78, .int .i64 t78), (79, .int .i64 t79), (100, .pointer (some ⟨H.next, 2, none⟩))] 135 (s' := (.reg (opsAt (sub B [1, 1, 1, 1, 1, 1, 0, 1, 0, 0, 1, 1, 0, 0, 1, 1, 0, 1, 0, 0])) [1, 2] :: S31)) (by kernel_rfl) fun J => ?_
    obtain ⟨t101, q32, h⟩ := h
    refine KR.rd (one_ld (by kernel_rfl) q32) ?_
    refine KR.run 2 [(4, .int .i64 t4), (8, .pointer t8), (10, .pointer (some ⟨H.next, 0, none⟩)), (11, .bool true), (12, .int .i64 (IntKind.wrap .i64 (Int.tmod (IntKind.wrap .u64 t84) 65))), (77, .slice (some ⟨t77ab, t77ao, none⟩) t77n t77k), (78, .int .i64 t78), (79, .int .i64 t79), (99, .bool t101)] 135 (s' := (.code (sub B [1, 1, 1, 1, 1, 1, 0, 1, 0, 0, 1, 1, 0, 0, 1, 1, 0, 1, 0, 1]) :: S30)) (by kernel_rfl) fun J => ?_
    by_cases c33 : t101 = true
    · replace h := iteT c33 h
      refine KR.br true (by kernel_rfl) (vB (bT c33)) ?_
      refine KE.start H_2 (by kernel_rfl) (by kernel_rfl) ?_
      refine KE.run 2 [(4, .int .i64 t4), (8, .pointer t8), (10, .pointer (some ⟨H.next, 0, none⟩)), (77, .slice (some ⟨t77ab, t77ao, none⟩) t77n t77k), (78, .int .i64 t78), (79, .int .i64 t79), (102, .pointer t8), (103, .pointer (some ⟨H.next, 4, none⟩))] 135 2 (by kernel_rfl) fun J => ?_
      obtain ⟨t104a, t104n, t104k, q34, h⟩ := h
      refine KE.rdN (one_ld (by kernel_rfl) q34) (by kernel_rfl) ?_
      refine KE.run 1 [(4, .int .i64 t4), (8, .pointer t8), (10, .pointer (some ⟨H.next, 0, none⟩)), (77, .slice (some ⟨t77ab, t77ao, none⟩) t77n t77k), (78, .int .i64 t78), (79, .int .i64 t79), (102, .pointer t8), (105, .int .i64 ((t104n : Nat) : Int))] 135 4 (by kernel_rfl) fun J => ?_
      obtain ⟨t106a, t106n, t106k, H_3, q35, h⟩ := h
      refine KE.se (one_ca (by kernel_rfl) q35) (by kernel_rfl) ?_
      obtain ⟨t107, q36, h⟩ := h
      refine KE.rdN (one_str (by kernel_rfl) q36) (by kernel_rfl) ?_
      refine KE.run 1 [(4, .int .i64 t4), (8, .pointer t8), (77, .slice (some ⟨t77ab, t77ao, none⟩) t77n t77k), (78, .int .i64 t78), (79, .int .i64 t79), (107, .string t107), (108, .pointer (some ⟨H.next, 4, none⟩))] 135 7 (by kernel_rfl) fun J => ?_
      obtain ⟨t109a, t109n, t109k, q37, h⟩ := h
      refine KE.rdF (one_ld (by kernel_rfl) q37) (by kernel_rfl) ?_
      obtain ⟨t110, q38, h⟩ := h
      refine KE.rdF (one_str (by kernel_rfl) q38) (by kernel_rfl) ?_
      refine KE.run 2 [(4, .int .i64 t4), (8, .pointer t8), (11, .bool (t107.toList == t110.toList)), (77, .slice (some ⟨t77ab, t77ao, none⟩) t77n t77k), (78, .int .i64 t78), (79, .int .i64 t79)] 135 11 (by kernel_rfl) fun J => ?_
      obtain ⟨q39, q40, h⟩ := h
      refine KE.fin (H' := H_3) (by kernel_rfl) (rdsS (rdsS (rfl) (rd_ok (Hs := [H_3]) (by kernel_rfl) (by kernel_rfl) ⟨one_ld (by kernel_rfl) q39, trivial⟩)) (rd_ok (Hs := [H_3]) (by kernel_rfl) (by kernel_rfl) ⟨one_str (by kernel_rfl) q40, trivial⟩)) (by kernel_rfl) ?_
      exact KR.run 3 [(4, .int .i64 t4), (8, .pointer t8), (11, .bool (t107.toList == t110.toList)), (77, .slice (some ⟨t77ab, t77ao, none⟩) t77n t77k), (78, .int .i64 t78), (79, .int .i64 t79)] 135 (s' := (.reg (opsAt (sub B [1, 1, 1, 1, 1, 1, 0, 1, 0, 0, 1, 1, 0, 0, 1, 1, 1, 0])) [0, 1] :: S32)) (by kernel_rfl) h
    · replace h := iteF c33 h
      refine KR.br false (by kernel_rfl) (vB (bF c33)) ?_
      refine KR.run 3 [(4, .int .i64 t4), (8, .pointer t8), (10, .pointer (some ⟨H.next, 0, none⟩)), (11, .bool true), (12, .int .i64 (IntKind.wrap .i64 (Int.tmod (IntKind.wrap .u64 t84) 65))), (77, .slice (some ⟨t77ab, t77ao, none⟩) t77n t77k), (78, .int .i64 t78), (79, .int .i64 t79), (113, .pointer (some ⟨H.next, 3, none⟩))] 135 (s' := (.reg (opsAt (sub B [1, 1, 1, 1, 1, 1, 0, 1, 0, 0, 1, 1, 0, 0, 1, 1, 0, 1, 0, 1, 1, 0])) [1, 2] :: S33)) (by kernel_rfl) fun J => ?_
      obtain ⟨t114, q41, h⟩ := h
      refine KR.rd (one_ld (by kernel_rfl) q41) ?_
      refine KR.run 2 [(4, .int .i64 t4), (8, .pointer t8), (10, .pointer (some ⟨H.next, 0, none⟩)), (11, .bool true), (12, .int .i64 (IntKind.wrap .i64 (Int.tmod (IntKind.wrap .u64 t84) 65))), (77, .slice (some ⟨t77ab, t77ao, none⟩) t77n t77k), (78, .int .i64 t78), (79, .int .i64 t79), (112, .bool t114)] 135 (s' := (.code (sub B [1, 1, 1, 1, 1, 1, 0, 1, 0, 0, 1, 1, 0, 0, 1, 1, 0, 1, 0, 1, 1, 1]) :: S30)) (by kernel_rfl) fun J => ?_
      by_cases c42 : t114 = true
      · replace h := iteT c42 h
        refine KR.br true (by kernel_rfl) (vB (bT c42)) ?_
        refine KR.run 2 [(4, .int .i64 t4), (8, .pointer t8), (11, .bool true), (77, .slice (some ⟨t77ab, t77ao, none⟩) t77n t77k), (78, .int .i64 t78), (79, .int .i64 t79), (115, .pointer t8)] 135 (s' := (.reg (opsAt (sub B [1, 1, 1, 1, 1, 1, 0, 1, 0, 0, 1, 1, 0, 0, 1, 1, 0, 1, 0, 1, 1, 1, 0])) [1] :: S30)) (by kernel_rfl) fun J => ?_
        obtain ⟨H_4, q43, h⟩ := h
        refine KR.se (one_ca (by kernel_rfl) q43) ?_
        exact KR.run 4 [(4, .int .i64 t4), (8, .pointer t8), (11, .bool true), (77, .slice (some ⟨t77ab, t77ao, none⟩) t77n t77k), (78, .int .i64 t78), (79, .int .i64 t79)] 135 (s' := (.reg (opsAt (sub B [1, 1, 1, 1, 1, 1, 0, 1, 0, 0, 1, 1, 0, 0, 1, 1, 1, 0])) [0, 1] :: S32)) (by kernel_rfl) h
      · replace h := iteF c42 h
        refine KR.br false (by kernel_rfl) (vB (bF c42)) ?_
        refine KE.start H_2 (by kernel_rfl) (by kernel_rfl) ?_
        refine KE.run 2 [(4, .int .i64 t4), (8, .pointer t8), (10, .pointer (some ⟨H.next, 0, none⟩)), (12, .int .i64 (IntKind.wrap .i64 (Int.tmod (IntKind.wrap .u64 t84) 65))), (77, .slice (some ⟨t77ab, t77ao, none⟩) t77n t77k), (78, .int .i64 t78), (79, .int .i64 t79), (88, .pointer t8), (89, .int .i64 (IntKind.wrap .i64 (Int.tmod (IntKind.wrap .u64 t84) 65)))] 135 2 (by kernel_rfl) fun J => ?_
        obtain ⟨t90, H_5, q44, h⟩ := h
        refine KE.se (one_ca (by kernel_rfl) q44) (by kernel_rfl) ?_
        refine KE.run 1 [(4, .int .i64 t4), (8, .pointer t8), (12, .int .i64 (IntKind.wrap .i64 (Int.tmod (IntKind.wrap .u64 t84) 65))), (77, .slice (some ⟨t77ab, t77ao, none⟩) t77n t77k), (78, .int .i64 t78), (79, .int .i64 t79), (90, .int .u64 t90), (91, .pointer (some ⟨H.next, 0, none⟩))] 135 4 (by kernel_rfl) fun J => ?_
        obtain ⟨t92, q45, h⟩ := h
        refine KE.rdF (one_ld (by kernel_rfl) q45) (by kernel_rfl) ?_
        refine KE.run 2 [(4, .int .i64 t4), (8, .pointer t8), (77, .slice (some ⟨t77ab, t77ao, none⟩) t77n t77k), (78, .int .i64 t78), (79, .int .i64 t79), (90, .int .u64 t90), (92, .int .u64 t92), (94, .int .u64 (IntKind.wrap .u64 (IntKind.wrap .i64 (Int.tmod (IntKind.wrap .u64 t84) 65))))] 135 7 (by kernel_rfl) fun J => ?_
        obtain ⟨q46, h⟩ := h
        refine KE.p (one_shl .u64 .u64 1 (by kernel_rfl) q46) ?_
        refine KE.run 4 [(4, .int .i64 t4), (8, .pointer t8), (11, .bool (t90 == (iand .u64 t92 (IntKind.wrap .u64 ((ishl .u64 1 (IntKind.wrap .u64 (IntKind.wrap .i64 (Int.tmod (IntKind.wrap .u64 t84) 65)))) - 1))))), (77, .slice (some ⟨t77ab, t77ao, none⟩) t77n t77k), (78, .int .i64 t78), (79, .int .i64 t79)] 135 12 (by kernel_rfl) fun J => ?_
        obtain ⟨q47, h⟩ := h
        refine KE.fin (H' := H_5) (by kernel_rfl) (rdsS (rfl) (rd_ok (Hs := [H_5]) (by kernel_rfl) (by kernel_rfl) ⟨one_ld (by kernel_rfl) q47, trivial⟩)) (by kernel_rfl) ?_
        exact KR.run 3 [(4, .int .i64 t4), (8, .pointer t8), (11, .bool (t90 == (iand .u64 t92 (IntKind.wrap .u64 ((ishl .u64 1 (IntKind.wrap .u64 (IntKind.wrap .i64 (Int.tmod (IntKind.wrap .u64 t84) 65)))) - 1))))), (77, .slice (some ⟨t77ab, t77ao, none⟩) t77n t77k), (78, .int .i64 t78), (79, .int .i64 t79)] 135 (s' := (.reg (opsAt (sub B [1, 1, 1, 1, 1, 1, 0, 1, 0, 0, 1, 1, 0, 0, 1, 1, 1, 0])) [0, 1] :: S32)) (by kernel_rfl) h
  · replace h := iteF c26 h
    refine KR.br false (by kernel_rfl) (vB (dF c26)) ?_
    refine KR.run 5 [(4, .int .i64 t4), (8, .pointer t8), (120, .pointer t8)] 135 (s' := (.reg (opsAt (sub B [1, 1, 1, 1, 1, 1, 1, 0, 0])) [1, 2, 3, 4, 5, 6] :: S35)) (by kernel_rfl) fun J => ?_
    obtain ⟨t121, H_6, q48, h⟩ := h
    refine KR.se (one_ca (by kernel_rfl) q48) ?_
    refine KR.run 6 [(8, .pointer t8), (126, .bool (!(t121 == (Int.tmod (IntKind.wrap .i64 (8 - (Int.tmod t4 8))) 8))))] 135 (s' := (.code (sub B [1, 1, 1, 1, 1, 1, 1, 0, 1]) :: S34)) (by kernel_rfl) fun J => ?_
    by_cases c49 : t121 = (Int.tmod (IntKind.wrap .i64 (8 - (Int.tmod t4 8))) 8)
    · replace h := iteT c49 h
      refine KR.br false (by kernel_rfl) (vB (nB (eT c49))) ?_
      refine KR.run 4 [(8, .pointer t8), (127, .pointer t8)] 135 (s' := (.reg (opsAt (sub B [1, 1, 1, 1, 1, 1, 1, 1, 0])) [1] :: S36)) (by kernel_rfl) fun J => ?_
      obtain ⟨H_7, q50, h⟩ := h
      refine KR.se (one_ca (by kernel_rfl) q50) ?_
      refine KR.run 4 [(129, .pointer t8)] 135 (s' := (.reg (opsAt (sub B [1, 1, 1, 1, 1, 1, 1, 1, 1, 0])) [1, 2, 3, 4, 5, 6] :: S37)) (by kernel_rfl) fun J => ?_
      obtain ⟨t130, H_8, q51, h⟩ := h
      refine KR.se (one_ca (by kernel_rfl) q51) ?_
      refine KR.run 2 [(132, .bool (t130 == 0))] 135 (s' := (.reg (opsAt (sub B [1, 1, 1, 1, 1, 1, 1, 1, 1, 0])) [4, 5, 6] :: S37)) (by kernel_rfl) fun J => ?_
      by_cases c52 : t130 = 0
      · replace h := iteT c52 h
        refine KR.setV 132 (by kernel_rfl) (eT c52) ?_
        obtain ⟨t133, H_9, q53, h⟩ := h
        refine KR.se (one_ca (by kernel_rfl) q53) ?_
        refine KR.run 3 [(2, .bool t133)] 135 (s' := (.code (sub B [1, 1, 1, 1, 1, 1, 1, 1, 1, 1]) :: [])) (by kernel_rfl) fun J => ?_
        exact KR.fin (by kernel_rfl) h
      · replace h := iteF c52 h
        refine KR.setV 132 (by kernel_rfl) (eF c52) ?_
        refine KR.run 4 [(2, .bool false)] 135 (s' := (.code (sub B [1, 1, 1, 1, 1, 1, 1, 1, 1, 1]) :: [])) (by kernel_rfl) fun J => ?_
        exact KR.fin (by kernel_rfl) h
    · replace h := iteF c49 h
      refine KR.br true (by kernel_rfl) (vB (nB (eF c49))) ?_
      refine KR.run 4 [(2, .bool false)] 135 (s' := (.code (sub B [1, 1, 1, 1, 1, 1, 1, 0, 1, 0, 1]) :: S34)) (by kernel_rfl) fun J => ?_
      exact KR.fin (by kernel_rfl) h
theorem L3_step {t0a : Option Addr} {t0n : Nat} {t0k : Nat} {t3b : Nat} {t3o : Nat} {t4 : Int} {t19b : Nat} {t19o : Nat} {t19n : Nat} {t19k : Nat} {t20 : Int} {t21 : Int} {t72 : Bool} {H : Heap} {r : Value × Heap} (h :
    if t72 = true then
    (r = (.bool false, H))
    else
    (L0 (t0a) (t0n) (t0k) (t3b) (t3o) (t4) ((some ⟨t19b, t19o, none⟩)) (t19n) (t19k) (t20) ((IntKind.wrap .i64 (t21 + 1))) H r)) :
    L3 t0a t0n t0k t3b t3o t4 t19b t19o t19n t19k t20 t21 t72 H r := by
  intro J
  show KR _ _ _ (.code (sub B [1, 1, 1, 1, 0, 1, 0, 0, 1, 1, 0, 0, 1, 1, 1]) :: S9) _ _ _
  by_cases c54 : t72 = true
  · replace h := iteT c54 h
    refine KR.br true (by kernel_rfl) (vB (bT c54)) ?_
    refine KR.run 4 [(2, .bool false)] 135 (s' := (.code (sub B [1, 1, 1, 1, 0, 1, 0, 0, 1, 1, 0, 0, 1, 1, 1, 0, 1]) :: S9)) (by kernel_rfl) fun J => ?_
    exact KR.fin (by kernel_rfl) h
  · replace h := iteF c54 h
    refine KR.br false (by kernel_rfl) (vB (bF c54)) ?_
    exact KR.run 6 [(0, .slice t0a t0n t0k), (3, .pointer (some ⟨t3b, t3o, none⟩)), (4, .int .i64 t4), (19, .slice (some ⟨t19b, t19o, none⟩) t19n t19k), (20, .int .i64 t20), (21, .int .i64 (IntKind.wrap .i64 (t21 + 1)))] 135 (s' := (.lp (sub B [1, 1, 1, 1, 0, 1, 0, 0]) :: S4)) (by kernel_rfl) h
theorem L4_step {t4 : Int} {t8 : Option Addr} {t11 : Bool} {t77b : Nat} {t77o : Nat} {t77n : Nat} {t77k : Nat} {t78 : Int} {t79 : Int} {H : Heap} {r : Value × Heap} (h :
    if t11 = true then
    (L2 (t4) (t8) ((some ⟨t77b, t77o, none⟩)) (t77n) (t77k) (t78) ((IntKind.wrap .i64 (t79 + 1))) H r)
    else
    (r = (.bool false, H))) :
    L4 t4 t8 t11 t77b t77o t77n t77k t78 t79 H r := by
  intro J
  show KR _ _ _ (.reg (opsAt (sub B [1, 1, 1, 1, 1, 1, 0, 1, 0, 0, 1, 1, 0, 0, 1, 1, 1, 0])) [0, 1] :: S32) _ _ _
  refine KR.run 3 [(4, .int .i64 t4), (8, .pointer t8), (77, .slice (some ⟨t77b, t77o, none⟩) t77n t77k), (78, .int .i64 t78), (79, .int .i64 t79), (118, .bool (!t11))] 135 (s' := (.code (sub B [1, 1, 1, 1, 1, 1, 0, 1, 0, 0, 1, 1, 0, 0, 1, 1, 1, 1]) :: S26)) (by kernel_rfl) fun J => ?_
  by_cases c55 : t11 = true
  · replace h := iteT c55 h
    refine KR.br false (by kernel_rfl) (vB (nB (bT c55))) ?_
    exact KR.run 6 [(4, .int .i64 t4), (8, .pointer t8), (77, .slice (some ⟨t77b, t77o, none⟩) t77n t77k), (78, .int .i64 t78), (79, .int .i64 (IntKind.wrap .i64 (t79 + 1)))] 135 (s' := (.lp (sub B [1, 1, 1, 1, 1, 1, 0, 1, 0, 0]) :: S22)) (by kernel_rfl) h
  · replace h := iteF c55 h
    refine KR.br true (by kernel_rfl) (vB (nB (bF c55))) ?_
    refine KR.run 4 [(2, .bool false)] 135 (s' := (.code (sub B [1, 1, 1, 1, 1, 1, 0, 1, 0, 0, 1, 1, 0, 0, 1, 1, 1, 1, 0, 1]) :: S26)) (by kernel_rfl) fun J => ?_
    exact KR.fin (by kernel_rfl) h
theorem call {a0a : Option Addr} {a0n : Nat} {a0k : Nat} {H : Heap} {r : Value × Heap} (h :
    ∃ (t14 : Bool) (H_1 : Heap), xC Try.prog good 29 [.slice a0a a0n a0k] H = some (.bool t14, H_1) ∧
    (if t14 = true then
    (∃ (H_2 : Heap), H_2 = H_1.push (.row [.slice none 0 0, .int .i64 0] true) ∧
    (L0 (a0a) (a0n) (a0k) (H_1.next) (0) 0 (a0a) (a0n) (a0k) (((a0n : Nat) : Int)) 0 H_2 r))
    else
    (∃ (t16 : Bool) (H_3 : Heap), xC Try.prog good 19 [] H_1 = some (.bool t16, H_3) ∧
    (r = (.bool t16, H_3))))) :
    xC Try.prog good 10 [.slice a0a a0n a0k] H = some r := by
  refine KR.enter (fn := Try.f10) (c := B) (by kernel_rfl) (by kernel_rfl) ?_
  refine KR.run 8 [(0, .slice a0a a0n a0k), (13, .slice a0a a0n a0k)] 135 (s' := (.reg (opsAt (sub B [1, 0, 0])) [1, 2] :: S1)) (by kernel_rfl) fun J => ?_
  obtain ⟨t14, H_1, q1, h⟩ := h
  refine KR.se (one_ca (by kernel_rfl) q1) ?_
  refine KR.run 2 [(0, .slice a0a a0n a0k), (15, .bool (!t14))] 135 (s' := (.code (sub B [1, 0, 1]) :: S0)) (by kernel_rfl) fun J => ?_
  by_cases c2 : t14 = true
  · replace h := iteT c2 h
    refine KR.br false (by kernel_rfl) (vB (nB (bT c2))) ?_
    refine KR.run 4 [(0, .slice a0a a0n a0k), (17, .agg #[.slice none 0 0, .int .i64 0])] 135 (s' := (.reg (opsAt (sub B [1, 1, 0])) [1, 2] :: S2)) (by kernel_rfl) fun J => ?_
    obtain ⟨H_2, q3, h⟩ := h
    refine KR.mk (w := pRow [.slice none 0 0, .int .i64 0]) (one_al (by kernel_rfl)) q3 ?_
    exact KR.run 15 [(0, .slice a0a a0n a0k), (3, .pointer (some ⟨H_1.next, 0, none⟩)), (4, .int .i64 0), (19, .slice a0a a0n a0k), (20, .int .i64 ((a0n : Nat) : Int)), (21, .int .i64 0)] 135 (s' := (.lp (sub B [1, 1, 1, 1, 0, 1, 0, 0]) :: S4)) (by kernel_rfl) h
  · replace h := iteF c2 h
    refine KR.br true (by kernel_rfl) (vB (nB (bF c2))) ?_
    refine KR.run 2 [] 135 (s' := (.reg (opsAt (sub B [1, 0, 1, 0, 0])) [0, 1] :: S5)) (by kernel_rfl) fun J => ?_
    obtain ⟨t16, H_3, q4, h⟩ := h
    refine KR.se (one_ca (by kernel_rfl) q4) ?_
    refine KR.run 2 [(2, .bool t16)] 135 (s' := (.code (sub B [1, 0, 1, 0, 1]) :: S0)) (by kernel_rfl) fun J => ?_
    exact KR.fin (by kernel_rfl) h
end F10
/-! #### 14 (*campanile/bits.Writer).Put -/
namespace F14
noncomputable def B : Code := bodyOf Try.f14
noncomputable def S0 : List It := (.code (sub B [1]) :: [])
noncomputable def S2 : List It := (.blk 0 :: [])
noncomputable def S1 : List It := (.code (sub B [0, 1]) :: S0)
noncomputable def S3 : List It := (.lp (sub B [1, 1, 0, 0]) :: S2)
noncomputable def S4 : List It := (.code (sub B [1, 1, 0, 0, 1]) :: S3)
noncomputable def S5 : List It := (.blk 1 :: S3)
noncomputable def S6 : List It := (.code (sub B [1, 1, 0, 0, 1, 0, 1]) :: S5)
noncomputable def S8 : List It := (.code (sub B [1, 1, 0, 0, 1, 0, 1, 1]) :: S5)
noncomputable def S9 : List It := (.code (sub B [1, 1, 0, 0, 1, 0, 1, 1, 1, 1]) :: S5)
noncomputable def S10 : List It := (.code (sub B [1, 1, 0, 0, 1, 0, 1, 1, 1, 1, 1]) :: S5)
noncomputable def S7 : List It := (.code (sub B [1, 1, 0, 0, 1, 0, 0, 1]) :: S6)
noncomputable def S11 : List It := (.reg (opsAt (sub B [1, 1, 0, 0, 1, 0, 1, 0])) [0, 1, 2, 3, 4, 5, 6] :: S8)
def L0 (t0 : Option Addr) (t1 : Int) (t2 : Int) (t16 : Bool) (H : Heap) (r : Value × Heap) : Prop := ∀ J, KR Try.prog good Try.f14 S1 (mat J 85 [(0, .pointer t0), (1, .int .u64 t1), (2, .int .i64 t2), (16, .bool t16)]) H r
def L1 (t0 : Option Addr) (t1 : Int) (t6 : Int) (H : Heap) (r : Value × Heap) : Prop := ∀ J, KR Try.prog good Try.f14 S3 (mat J 85 [(0, .pointer t0), (1, .int .u64 t1), (6, .int .i64 t6)]) H r
def L2 (t0b : Nat) (t0o : Nat) (t1 : Int) (t6 : Int) (H : Heap) (r : Value × Heap) : Prop := ∀ J, KR Try.prog good Try.f14 S11 (mat J 85 [(0, .pointer (some ⟨t0b, t0o, none⟩)), (1, .int .u64 t1), (6, .int .i64 t6)]) H r
theorem L0_step {t0 : Option Addr} {t1 : Int} {t2 : Int} {t16 : Bool} {H : Heap} {r : Value × Heap} (h :
    if t16 = true then
    (r = (.tuple #[], H))
    else
    (L1 (t0) (t1) (t2) H r)) :
    L0 t0 t1 t2 t16 H r := by
  intro J
  show KR _ _ _ (.code (sub B [0, 1]) :: S0) _ _ _
  by_cases c4 : t16 = true
  · replace h := iteT c4 h
    refine KR.br true (by kernel_rfl) (vB (bT c4)) ?_
    exact KR.fin (by kernel_rfl) h
  · replace h := iteF c4 h
    refine KR.br false (by kernel_rfl) (vB (bF c4)) ?_
    exact KR.run 8 [(0, .pointer t0), (1, .int .u64 t1), (6, .int .i64 t2)] 85 (s' := (.lp (sub B [1, 1, 0, 0]) :: S2)) (by kernel_rfl) h
theorem L1_step {t0 : Option Addr} {t1 : Int} {t6 : Int} {H : Heap} {r : Value × Heap} (h :
    if t6 > 0 then
    (∃ (t0b t0o : Nat), t0 = some ⟨t0b, t0o, none⟩ ∧
    (∃ (t23 : Int), ldc H t0b (t0o + 1) = some (.int .i64 t23) ∧
    (if (Int.tmod t23 8) = 0 then
    (∃ (t30a : Option Addr) (t30n : Nat) (t30k : Nat), ldc H t0b t0o = some (.slice t30a t30n t30k) ∧
    (∃ (H_1 : Heap), H_1 = H.push (.row [.int .u8 0] true) ∧
    (∃ (t32a : Option Addr) (t32n : Nat) (t32k : Nat) (H_2 : Heap), papp H_1 1 1 t30a t30n t30k (some ⟨H.next, 0, none⟩) 1 (UNK 1) = some ((t32a, t32n, t32k), H_2) ∧
    (∃ (H_3 : Heap), stc H_2 t0b t0o [.slice t32a t32n t32k] = some H_3 ∧
    (L2 (t0b) (t0o) (t1) (t6) H_3 r)))))
    else
    (L2 (t0b) (t0o) (t1) (t6) H r))))
    else
    (r = (.tuple #[], H))) :
    L1 t0 t1 t6 H r := by
  intro J
  show KR _ _ _ (.lp (sub B [1, 1, 0, 0]) :: S2) _ _ _
  refine KR.run 7 [(0, .pointer t0), (1, .int .u64 t1), (6, .int .i64 t6), (19, .bool (decide (t6 > 0)))] 85 (s' := (.code (sub B [1, 1, 0, 0, 0, 1]) :: S4)) (by kernel_rfl) fun J => ?_
  by_cases c5 : t6 > 0
  · replace h := iteT c5 h
    refine KR.br true (by kernel_rfl) (vB (dT c5)) ?_
    obtain ⟨t0b, t0o, rfl, h⟩ := h
    refine KR.run 8 [(0, .pointer (some ⟨t0b, t0o, none⟩)), (1, .int .u64 t1), (6, .int .i64 t6), (22, .pointer (some ⟨t0b, (t0o + 1), none⟩))] 85 (s' := (.reg (opsAt (sub B [1, 1, 0, 0, 1, 0, 0, 0])) [3, 4, 5] :: S7)) (by kernel_rfl) fun J => ?_
    obtain ⟨t23, q6, h⟩ := h
    refine KR.rd (one_ld (by kernel_rfl) q6) ?_
    refine KR.run 3 [(0, .pointer (some ⟨t0b, t0o, none⟩)), (1, .int .u64 t1), (6, .int .i64 t6), (25, .bool ((Int.tmod t23 8) == 0))] 85 (s' := (.code (sub B [1, 1, 0, 0, 1, 0, 0, 1]) :: S6)) (by kernel_rfl) fun J => ?_
    by_cases c7 : (Int.tmod t23 8) = 0
    · replace h := iteT c7 h
      refine KR.br true (by kernel_rfl) (vB (eT c7)) ?_
      refine KR.run 5 [(0, .pointer (some ⟨t0b, t0o, none⟩)), (1, .int .u64 t1), (6, .int .i64 t6), (26, .pointer (some ⟨t0b, t0o, none⟩)), (29, .pointer (some ⟨t0b, t0o, none⟩))] 85 (s' := (.reg (opsAt (sub B [1, 1, 0, 0, 1, 0, 0, 1, 0])) [4, 5, 6, 7, 8, 9] :: S6)) (by kernel_rfl) fun J => ?_
      obtain ⟨t30a, t30n, t30k, q8, h⟩ := h
      refine KR.rd (one_ld (by kernel_rfl) q8) ?_
      obtain ⟨H_1, q9, h⟩ := h
      refine KR.mk (w := sRow 1 1 [.int .u8 0]) (one_al (by kernel_rfl)) q9 ?_
      obtain ⟨t32a, t32n, t32k, H_2, q10, h⟩ := h
      refine KR.se (one_ap 1 1 (by kernel_rfl) q10) ?_
      refine KR.run 2 [(0, .pointer (some ⟨t0b, t0o, none⟩)), (1, .int .u64 t1), (6, .int .i64 t6), (32, .slice t32a t32n t32k), (34, .pointer (some ⟨t0b, t0o, none⟩))] 85 (s' := (.reg (opsAt (sub B [1, 1, 0, 0, 1, 0, 0, 1, 0])) [9] :: S6)) (by kernel_rfl) fun J => ?_
      obtain ⟨H_3, q11, h⟩ := h
      refine KR.se (one_st (by kernel_rfl) q11) ?_
      exact KR.run 3 [(0, .pointer (some ⟨t0b, t0o, none⟩)), (1, .int .u64 t1), (6, .int .i64 t6)] 85 (s' := (.reg (opsAt (sub B [1, 1, 0, 0, 1, 0, 1, 0])) [0, 1, 2, 3, 4, 5, 6] :: S8)) (by kernel_rfl) h
    · replace h := iteF c7 h
      refine KR.br false (by kernel_rfl) (vB (eF c7)) ?_
      exact KR.run 3 [(0, .pointer (some ⟨t0b, t0o, none⟩)), (1, .int .u64 t1), (6, .int .i64 t6)] 85 (s' := (.reg (opsAt (sub B [1, 1, 0, 0, 1, 0, 1, 0])) [0, 1, 2, 3, 4, 5, 6] :: S8)) (by kernel_rfl) h
  · replace h := iteF c5 h
    refine KR.br false (by kernel_rfl) (vB (dF c5)) ?_
    refine KR.run 1 [] 85 (s' := []) (by kernel_rfl) fun J => ?_
    exact KR.fin0 (by kernel_rfl) h
theorem L2_step {t0b : Nat} {t0o : Nat} {t1 : Int} {t6 : Int} {H : Heap} {r : Value × Heap} (h :
    ∃ (t38 : Int), ldc H t0b (t0o + 1) = some (.int .i64 t38) ∧
    ((0 : Int) ≤ (IntKind.wrap .i64 (t6 - (imin (IntKind.wrap .i64 (8 - (Int.tmod t38 8))) t6))) ∧
    ((0 : Int) ≤ (imin (IntKind.wrap .i64 (8 - (Int.tmod t38 8))) t6) ∧
    (∃ (t57a : Option Addr) (t57n : Nat) (t57k : Nat), ldc H t0b t0o = some (.slice t57a t57n t57k) ∧
    (∃ (t61a : Option Addr) (t61n : Nat) (t61k : Nat), ldc H t0b t0o = some (.slice t61a t61n t61k) ∧
    (∃ (t57ab t57ao : Nat), t57a = some ⟨t57ab, t57ao, none⟩ ∧
    ((0 : Int) ≤ (IntKind.wrap .i64 (((t61n : Nat) : Int) - 1)) ∧ (IntKind.wrap .i64 (((t61n : Nat) : Int) - 1)) < ((t57n : Nat) : Int) ∧
    (∃ (t65 : Int), ldc H t57ab (t57ao + Int.toNat (IntKind.wrap .i64 (((t61n : Nat) : Int) - 1)) * 1) = some (.int .u8 t65) ∧
    ((0 : Int) ≤ (IntKind.wrap .i64 ((IntKind.wrap .i64 (8 - (Int.tmod t38 8))) - (imin (IntKind.wrap .i64 (8 - (Int.tmod t38 8))) t6))) ∧
    ((0 : Int) ≤ (IntKind.wrap .i64 (((t61n : Nat) : Int) - 1)) ∧ (IntKind.wrap .i64 (((t61n : Nat) : Int) - 1)) < ((t57n : Nat) : Int) ∧
    (∃ (H_1 : Heap), stc H t57ab (t57ao + Int.toNat (IntKind.wrap .i64 (((t61n : Nat) : Int) - 1)) * 1) [.int .u8 (ior .u8 t65 (ishl .u8 (iand .u8 (IntKind.wrap .u8 (ishr .u64 t1 (IntKind.wrap .i64 (t6 - (imin (IntKind.wrap .i64 (8 - (Int.tmod t38 8))) t6))))) (IntKind.wrap .u8 ((ishl .u8 1 (imin (IntKind.wrap .i64 (8 - (Int.tmod t38 8))) t6)) - 1))) (IntKind.wrap .i64 ((IntKind.wrap .i64 (8 - (Int.tmod t38 8))) - (imin (IntKind.wrap .i64 (8 - (Int.tmod t38 8))) t6)))))] = some H_1 ∧
    (∃ (t77 : Int), ldc H_1 t0b (t0o + 1) = some (.int .i64 t77) ∧
    (∃ (H_2 : Heap), stc H_1 t0b (t0o + 1) [.int .i64 (IntKind.wrap .i64 (t77 + (imin (IntKind.wrap .i64 (8 - (Int.tmod t38 8))) t6)))] = some H_2 ∧
    (L1 ((some ⟨t0b, t0o, none⟩)) (t1) ((IntKind.wrap .i64 (t6 - (imin (IntKind.wrap .i64 (8 - (Int.tmod t38 8))) t6)))) H_2 r)))))))))))))) :
    L2 t0b t0o t1 t6 H r := by
  intro J
  show KR _ _ _ (.reg (opsAt (sub B [1, 1, 0, 0, 1, 0, 1, 0])) [0, 1, 2, 3, 4, 5, 6] :: S8) _ _ _
  refine KR.run 3 [(0, .pointer (some ⟨t0b, t0o, none⟩)), (1, .int .u64 t1), (6, .int .i64 t6), (37, .pointer (some ⟨t0b, (t0o + 1), none⟩))] 85 (s' := (.reg (opsAt (sub B [1, 1, 0, 0, 1, 0, 1, 0])) [3, 4, 5, 6] :: S8)) (by kernel_rfl) fun J => ?_
  obtain ⟨t38, q12, h⟩ := h
  refine KR.rd (one_ld (by kernel_rfl) q12) ?_
  refine KR.run 12 [(0, .pointer (some ⟨t0b, t0o, none⟩)), (1, .int .u64 t1), (6, .int .i64 t6), (7, .int .i64 (IntKind.wrap .i64 (8 - (Int.tmod t38 8)))), (8, .int .i64 (imin (IntKind.wrap .i64 (8 - (Int.tmod t38 8))) t6))] 85 (s' := (.code (sub B [1, 1, 0, 0, 1, 0, 1, 1, 1, 0]) :: S9)) (by kernel_rfl) fun J => ?_
  refine KR.sd (by kernel_rfl) ?_
  refine KR.run 4 [(0, .pointer (some ⟨t0b, t0o, none⟩)), (1, .int .u64 t1), (6, .int .i64 t6), (7, .int .i64 (IntKind.wrap .i64 (8 - (Int.tmod t38 8)))), (8, .int .i64 (imin (IntKind.wrap .i64 (8 - (Int.tmod t38 8))) t6)), (44, .int .u64 t1), (47, .int .i64 (IntKind.wrap .i64 (t6 - (imin (IntKind.wrap .i64 (8 - (Int.tmod t38 8))) t6))))] 85 (s' := (.reg (opsAt (sub B [1, 1, 0, 0, 1, 0, 1, 1, 1, 0])) [4, 5, 6, 7, 8, 9, 10] :: S9)) (by kernel_rfl) fun J => ?_
  obtain ⟨q13, h⟩ := h
  refine KR.p (one_shr .u64 .i64 t1 (by kernel_rfl) q13) ?_
  refine KR.run 2 [(0, .pointer (some ⟨t0b, t0o, none⟩)), (1, .int .u64 t1), (6, .int .i64 t6), (7, .int .i64 (IntKind.wrap .i64 (8 - (Int.tmod t38 8)))), (8, .int .i64 (imin (IntKind.wrap .i64 (8 - (Int.tmod t38 8))) t6)), (49, .int .u8 (IntKind.wrap .u8 (ishr .u64 t1 (IntKind.wrap .i64 (t6 - (imin (IntKind.wrap .i64 (8 - (Int.tmod t38 8))) t6)))))), (50, .int .i64 (imin (IntKind.wrap .i64 (8 - (Int.tmod t38 8))) t6))] 85 (s' := (.reg (opsAt (sub B [1, 1, 0, 0, 1, 0, 1, 1, 1, 0])) [7, 8, 9, 10] :: S9)) (by kernel_rfl) fun J => ?_
  obtain ⟨q14, h⟩ := h
  refine KR.p (one_shl .u8 .i64 1 (by kernel_rfl) q14) ?_
  refine KR.run 5 [(0, .pointer (some ⟨t0b, t0o, none⟩)), (1, .int .u64 t1), (6, .int .i64 t6), (7, .int .i64 (IntKind.wrap .i64 (8 - (Int.tmod t38 8)))), (8, .int .i64 (imin (IntKind.wrap .i64 (8 - (Int.tmod t38 8))) t6)), (9, .int .u8 (iand .u8 (IntKind.wrap .u8 (ishr .u64 t1 (IntKind.wrap .i64 (t6 - (imin (IntKind.wrap .i64 (8 - (Int.tmod t38 8))) t6))))) (IntKind.wrap .u8 ((ishl .u8 1 (imin (IntKind.wrap .i64 (8 - (Int.tmod t38 8))) t6)) - 1))))] 85 (s' := (.code (sub B [1, 1, 0, 0, 1, 0, 1, 1, 1, 1, 0]) :: S10)) (by kernel_rfl) fun J => ?_
  refine KR.sd (by kernel_rfl) ?_
  refine KR.run 3 [(0, .pointer (some ⟨t0b, t0o, none⟩)), (1, .int .u64 t1), (6, .int .i64 t6), (7, .int .i64 (IntKind.wrap .i64 (8 - (Int.tmod t38 8)))), (8, .int .i64 (imin (IntKind.wrap .i64 (8 - (Int.tmod t38 8))) t6)), (9, .int .u8 (iand .u8 (IntKind.wrap .u8 (ishr .u64 t1 (IntKind.wrap .i64 (t6 - (imin (IntKind.wrap .i64 (8 - (Int.tmod t38 8))) t6))))) (IntKind.wrap .u8 ((ishl .u8 1 (imin (IntKind.wrap .i64 (8 - (Int.tmod t38 8))) t6)) - 1)))), (56, .pointer (some ⟨t0b, t0o, none⟩))] 85 (s' := (.reg (opsAt (sub B [1, 1, 0, 0, 1, 0, 1, 1, 1, 1, 0])) [3, 4, 5, 6, 7, 8, 9, 10, 11, 12, 13, 14, 15, 16, 17, 18, 19] :: S10)) (by kernel_rfl) fun J => ?_
  obtain ⟨t57a, t57n, t57k, q15, h⟩ := h
  refine KR.rd (one_ld (by kernel_rfl) q15) ?_
  refine KR.run 3 [(0, .pointer (some ⟨t0b, t0o, none⟩)), (1, .int .u64 t1), (6, .int .i64 t6), (7, .int .i64 (IntKind.wrap .i64 (8 - (Int.tmod t38 8)))), (8, .int .i64 (imin (IntKind.wrap .i64 (8 - (Int.tmod t38 8))) t6)), (9, .int .u8 (iand .u8 (IntKind.wrap .u8 (ishr .u64 t1 (IntKind.wrap .i64 (t6 - (imin (IntKind.wrap .i64 (8 - (Int.tmod t38 8))) t6))))) (IntKind.wrap .u8 ((ishl .u8 1 (imin (IntKind.wrap .i64 (8 - (Int.tmod t38 8))) t6)) - 1)))), (57, .slice t57a t57n t57k), (60, .pointer (some ⟨t0b, t0o, none⟩))] 85 (s' := (.reg (opsAt (sub B [1, 1, 0, 0, 1, 0, 1, 1, 1, 1, 0])) [7, 8, 9, 10, 11, 12, 13, 14, 15, 16, 17, 18, 19] :: S10)) (by kernel_rfl) fun J => ?_
  obtain ⟨t61a, t61n, t61k, q16, h⟩ := h
  refine KR.rd (one_ld (by kernel_rfl) q16) ?_
  obtain ⟨t57ab, t57ao, rfl, h⟩ := h
  refine KR.run 2 [(0, .pointer (some ⟨t0b, t0o, none⟩)), (1, .int .u64 t1), (6, .int .i64 t6), (7, .int .i64 (IntKind.wrap .i64 (8 - (Int.tmod t38 8)))), (8, .int .i64 (imin (IntKind.wrap .i64 (8 - (Int.tmod t38 8))) t6)), (9, .int .u8 (iand .u8 (IntKind.wrap .u8 (ishr .u64 t1 (IntKind.wrap .i64 (t6 - (imin (IntKind.wrap .i64 (8 - (Int.tmod t38 8))) t6))))) (IntKind.wrap .u8 ((ishl .u8 1 (imin (IntKind.wrap .i64 (8 - (Int.tmod t38 8))) t6)) - 1)))), (57, .slice (some ⟨t57ab, t57ao, none⟩) t57n t57k), (63, .int .i64 (IntKind.wrap .i64 (((t61n : Nat) : Int) - 1)))] 85 (s' := (.reg (opsAt (sub B [1, 1, 0, 0, 1, 0, 1, 1, 1, 1, 0])) [10, 11, 12, 13, 14, 15, 16, 17, 18, 19] :: S10)) (by kernel_rfl) fun J => ?_
  obtain ⟨q17, q17x, h⟩ := h
  refine KR.p (one_ix 1 t57ab t57ao (by kernel_rfl) q17 q17x) ?_
  obtain ⟨t65, q18, h⟩ := h
  refine KR.rd (one_ld (by kernel_rfl) q18) ?_
  refine KR.run 4 [(0, .pointer (some ⟨t0b, t0o, none⟩)), (1, .int .u64 t1), (6, .int .i64 t6), (8, .int .i64 (imin (IntKind.wrap .i64 (8 - (Int.tmod t38 8))) t6)), (57, .slice (some ⟨t57ab, t57ao, none⟩) t57n t57k), (63, .int .i64 (IntKind.wrap .i64 (((t61n : Nat) : Int) - 1))), (65, .int .u8 t65), (66, .int .u8 (iand .u8 (IntKind.wrap .u8 (ishr .u64 t1 (IntKind.wrap .i64 (t6 - (imin (IntKind.wrap .i64 (8 - (Int.tmod t38 8))) t6))))) (IntKind.wrap .u8 ((ishl .u8 1 (imin (IntKind.wrap .i64 (8 - (Int.tmod t38 8))) t6)) - 1)))), (69, .int .i64 (IntKind.wrap .i64 ((IntKind.wrap .i64 (8 - (Int.tmod t38 8))) - (imin (IntKind.wrap .i64 (8 - (Int.tmod t38 8))) t6))))] 85 (s' := (.reg (opsAt (sub B [1, 1, 0, 0, 1, 0, 1, 1, 1, 1, 0])) [16, 17, 18, 19] :: S10)) (by kernel_rfl) fun J => ?_
  obtain ⟨q19, h⟩ := h
  refine KR.p (one_shl .u8 .i64 (iand .u8 (IntKind.wrap .u8 (ishr .u64 t1 (IntKind.wrap .i64 (t6 - (imin (IntKind.wrap .i64 (8 - (Int.tmod t38 8))) t6))))) (IntKind.wrap .u8 ((ishl .u8 1 (imin (IntKind.wrap .i64 (8 - (Int.tmod t38 8))) t6)) - 1))) (by kernel_rfl) q19) ?_
  refine KR.run 1 [(0, .pointer (some ⟨t0b, t0o, none⟩)), (1, .int .u64 t1), (6, .int .i64 t6), (8, .int .i64 (imin (IntKind.wrap .i64 (8 - (Int.tmod t38 8))) t6)), (57, .slice (some ⟨t57ab, t57ao, none⟩) t57n t57k), (63, .int .i64 (IntKind.wrap .i64 (((t61n : Nat) : Int) - 1))), (71, .int .u8 (ior .u8 t65 (ishl .u8 (iand .u8 (IntKind.wrap .u8 (ishr .u64 t1 (IntKind.wrap .i64 (t6 - (imin (IntKind.wrap .i64 (8 - (Int.tmod t38 8))) t6))))) (IntKind.wrap .u8 ((ishl .u8 1 (imin (IntKind.wrap .i64 (8 - (Int.tmod t38 8))) t6)) - 1))) (IntKind.wrap .i64 ((IntKind.wrap .i64 (8 - (Int.tmod t38 8))) - (imin (IntKind.wrap .i64 (8 - (Int.tmod t38 8))) t6))))))] 85 (s' := (.reg (opsAt (sub B [1, 1, 0, 0, 1, 0, 1, 1, 1, 1, 0])) [18, 19] :: S10)) (by kernel_rfl) fun J => ?_
  obtain ⟨q20, q20x, h⟩ := h
  refine KR.p (one_ix 1 t57ab t57ao (by kernel_rfl) q20 q20x) ?_
  obtain ⟨H_1, q21, h⟩ := h
  refine KR.se (one_st (by kernel_rfl) q21) ?_
  refine KR.run 6 [(0, .pointer (some ⟨t0b, t0o, none⟩)), (1, .int .u64 t1), (6, .int .i64 t6), (8, .int .i64 (imin (IntKind.wrap .i64 (8 - (Int.tmod t38 8))) t6)), (73, .pointer (some ⟨t0b, t0o, none⟩)), (76, .pointer (some ⟨t0b, (t0o + 1), none⟩))] 85 (s' := (.reg (opsAt (sub B [1, 1, 0, 0, 1, 0, 1, 1, 1, 1, 1])) [4, 5, 6, 7, 8, 9, 10, 11, 12, 13] :: S5)) (by kernel_rfl) fun J => ?_
  obtain ⟨t77, q22, h⟩ := h
  refine KR.rd (one_ld (by kernel_rfl) q22) ?_
  refine KR.run 7 [(0, .pointer (some ⟨t0b, t0o, none⟩)), (1, .int .u64 t1), (79, .int .i64 (IntKind.wrap .i64 (t77 + (imin (IntKind.wrap .i64 (8 - (Int.tmod t38 8))) t6)))), (82, .int .i64 (IntKind.wrap .i64 (t6 - (imin (IntKind.wrap .i64 (8 - (Int.tmod t38 8))) t6)))), (84, .pointer (some ⟨t0b, (t0o + 1), none⟩))] 85 (s' := (.reg (opsAt (sub B [1, 1, 0, 0, 1, 0, 1, 1, 1, 1, 1])) [12, 13] :: S5)) (by kernel_rfl) fun J => ?_
  obtain ⟨H_2, q23, h⟩ := h
  refine KR.se (one_st (by kernel_rfl) q23) ?_
  exact KR.run 3 [(0, .pointer (some ⟨t0b, t0o, none⟩)), (1, .int .u64 t1), (6, .int .i64 (IntKind.wrap .i64 (t6 - (imin (IntKind.wrap .i64 (8 - (Int.tmod t38 8))) t6))))] 85 (s' := (.lp (sub B [1, 1, 0, 0]) :: S2)) (by kernel_rfl) h
theorem call {a0 : Option Addr} {a1 : Int} {a2 : Int} {H : Heap} {r : Value × Heap} (h :
    if (Option.isNone a0) = true then
    (L0 (a0) (a1) (a2) (true) H r)
    else
    (∃ (t14 : Bool) (H_1 : Heap), xC Try.prog good 51 [.int .i64 a2] H = some (.bool t14, H_1) ∧
    (L0 (a0) (a1) (a2) ((!t14)) H_1 r))) :
    xC Try.prog good 14 [.pointer a0, .int .u64 a1, .int .i64 a2] H = some r := by
  refine KR.enter (fn := Try.f14) (c := B) (by kernel_rfl) (by kernel_rfl) ?_
  refine KR.run 4 [(0, .pointer a0), (1, .int .u64 a1), (2, .int .i64 a2), (10, .pointer a0)] 85 (s' := (.reg (opsAt (sub B [0, 0])) [1, 2, 3, 4, 5, 6] :: S1)) (by kernel_rfl) fun J => ?_
  refine KR.p (one_nl false a0 (by kernel_rfl)) ?_
  refine KR.run 1 [(0, .pointer a0), (1, .int .u64 a1), (2, .int .i64 a2), (12, .bool (Option.isNone a0))] 85 (s' := (.reg (opsAt (sub B [0, 0])) [3, 4, 5, 6] :: S1)) (by kernel_rfl) fun J => ?_
  by_cases c2 : (Option.isNone a0) = true
  · replace h := iteT c2 h
    refine KR.setV 12 (by kernel_rfl) (bT c2) ?_
    exact KR.run 5 [(0, .pointer a0), (1, .int .u64 a1), (2, .int .i64 a2), (16, .bool true)] 85 (s' := (.code (sub B [0, 1]) :: S0)) (by kernel_rfl) h
  · replace h := iteF c2 h
    refine KR.setV 12 (by kernel_rfl) (bF c2) ?_
    refine KR.run 1 [(0, .pointer a0), (1, .int .u64 a1), (2, .int .i64 a2), (12, .bool false), (13, .int .i64 a2)] 85 (s' := (.reg (opsAt (sub B [0, 0])) [4, 5, 6] :: S1)) (by kernel_rfl) fun J => ?_
    obtain ⟨t14, H_1, q3, h⟩ := h
    refine KR.se (one_ca (by kernel_rfl) q3) ?_
    exact KR.run 3 [(0, .pointer a0), (1, .int .u64 a1), (2, .int .i64 a2), (16, .bool (!t14))] 85 (s' := (.code (sub B [0, 1]) :: S0)) (by kernel_rfl) h
end F14
/-! #### 15 (*campanile/bits.Writer).Bits -/
namespace F15
noncomputable def B : Code := bodyOf Try.f15
noncomputable def S0 : List It := (.code (sub B [1, 1]) :: [])
noncomputable def S2 : List It := (.code (sub B [1, 1, 1]) :: [])
noncomputable def S1 : List It := (.code (sub B [1, 0, 1]) :: S0)
theorem call {a0 : Option Addr} {H : Heap} {r : Value × Heap} (h :
    if (Option.isNone a0) = true then
    (r = (.int .i64 0, H))
    else
    (∃ (a0b a0o : Nat), a0 = some ⟨a0b, a0o, none⟩ ∧
    (∃ (t8 : Int), ldc H a0b (a0o + 1) = some (.int .i64 t8) ∧
    (r = (.int .i64 t8, H))))) :
    xC Try.prog good 15 [.pointer a0] H = some r := by
  refine KR.enter (fn := Try.f15) (c := B) (by kernel_rfl) (by kernel_rfl) ?_
  refine KR.run 8 [(0, .pointer a0), (3, .pointer a0)] 9 (s' := (.reg (opsAt (sub B [1, 0, 0])) [1] :: S1)) (by kernel_rfl) fun J => ?_
  refine KR.p (one_nl false a0 (by kernel_rfl)) ?_
  refine KR.run 1 [(0, .pointer a0), (4, .bool (Option.isNone a0))] 9 (s' := (.code (sub B [1, 0, 1]) :: S0)) (by kernel_rfl) fun J => ?_
  by_cases c2 : (Option.isNone a0) = true
  · replace h := iteT c2 h
    refine KR.br true (by kernel_rfl) (vB (bT c2)) ?_
    refine KR.run 4 [(2, .int .i64 0)] 9 (s' := (.code (sub B [1, 0, 1, 0, 1]) :: S0)) (by kernel_rfl) fun J => ?_
    exact KR.fin (by kernel_rfl) h
  · replace h := iteF c2 h
    refine KR.br false (by kernel_rfl) (vB (bF c2)) ?_
    obtain ⟨a0b, a0o, rfl, h⟩ := h
    refine KR.run 6 [(7, .pointer (some ⟨a0b, (a0o + 1), none⟩))] 9 (s' := (.reg (opsAt (sub B [1, 1, 0])) [3, 4] :: S2)) (by kernel_rfl) fun J => ?_
    obtain ⟨t8, q3, h⟩ := h
    refine KR.rd (one_ld (by kernel_rfl) q3) ?_
    refine KR.run 2 [(2, .int .i64 t8)] 9 (s' := (.code (sub B [1, 1, 1]) :: [])) (by kernel_rfl) fun J => ?_
    exact KR.fin (by kernel_rfl) h
end F15
/-! #### 16 (*campanile/bits.Writer).Bytes -/
namespace F16
noncomputable def B : Code := bodyOf Try.f16
noncomputable def S0 : List It := (.code (sub B [1, 1]) :: [])
noncomputable def S2 : List It := (.code (sub B [1, 1, 1]) :: [])
noncomputable def S1 : List It := (.code (sub B [1, 0, 1]) :: S0)
theorem call {a0 : Option Addr} {H : Heap} {r : Value × Heap} (h :
    if (Option.isNone a0) = true then
    (r = (.slice none 0 0, H))
    else
    (∃ (a0b a0o : Nat), a0 = some ⟨a0b, a0o, none⟩ ∧
    (∃ (t8a : Option Addr) (t8n : Nat) (t8k : Nat), ldc H a0b a0o = some (.slice t8a t8n t8k) ∧
    (∃ (t9a : Option Addr) (t9n : Nat) (t9k : Nat) (H_1 : Heap), papp H 1 1 none 0 0 t8a t8n t8k = some ((t9a, t9n, t9k), H_1) ∧
    (r = (.slice t9a t9n t9k, H_1)))))) :
    xC Try.prog good 16 [.pointer a0] H = some r := by
  refine KR.enter (fn := Try.f16) (c := B) (by kernel_rfl) (by kernel_rfl) ?_
  refine KR.run 8 [(0, .pointer a0), (3, .pointer a0)] 10 (s' := (.reg (opsAt (sub B [1, 0, 0])) [1] :: S1)) (by kernel_rfl) fun J => ?_
  refine KR.p (one_nl false a0 (by kernel_rfl)) ?_
  refine KR.run 1 [(0, .pointer a0), (4, .bool (Option.isNone a0))] 10 (s' := (.code (sub B [1, 0, 1]) :: S0)) (by kernel_rfl) fun J => ?_
  by_cases c2 : (Option.isNone a0) = true
  · replace h := iteT c2 h
    refine KR.br true (by kernel_rfl) (vB (bT c2)) ?_
    refine KR.run 4 [(2, .slice none 0 0)] 10 (s' := (.code (sub B [1, 0, 1, 0, 1]) :: S0)) (by kernel_rfl) fun J => ?_
    exact KR.fin (by kernel_rfl) h
  · replace h := iteF c2 h
    refine KR.br false (by kernel_rfl) (vB (bF c2)) ?_
    obtain ⟨a0b, a0o, rfl, h⟩ := h
    refine KR.run 6 [(7, .pointer (some ⟨a0b, a0o, none⟩))] 10 (s' := (.reg (opsAt (sub B [1, 1, 0])) [3, 4, 5] :: S2)) (by kernel_rfl) fun J => ?_
    obtain ⟨t8a, t8n, t8k, q3, h⟩ := h
    refine KR.rd (one_ld (by kernel_rfl) q3) ?_
    obtain ⟨t9a, t9n, t9k, H_1, q4, h⟩ := h
    refine KR.se (one_ap 1 1 (by kernel_rfl) q4) ?_
    refine KR.run 2 [(2, .slice t9a t9n t9k)] 10 (s' := (.code (sub B [1, 1, 1]) :: [])) (by kernel_rfl) fun J => ?_
    exact KR.fin (by kernel_rfl) h
end F16
/-! #### 17 campanile/bits.NewReader -/
namespace F17
noncomputable def B : Code := bodyOf Try.f17
noncomputable def S0 : List It := (.code (sub B [1, 1]) :: [])
theorem call {a0a : Option Addr} {a0n : Nat} {a0k : Nat} {H : Heap} {r : Value × Heap} (h :
    ∃ (t4a : Option Addr) (t4n : Nat) (t4k : Nat) (H_1 : Heap), papp H 1 1 none 0 0 a0a a0n a0k = some ((t4a, t4n, t4k), H_1) ∧
    (∃ (H_2 : Heap), H_2 = H_1.push (.row [.slice t4a t4n t4k, .int .i64 0, .int .i64 0] true) ∧
    (r = (.pointer (some ⟨H_1.next, 0, none⟩), H_2)))) :
    xC Try.prog good 17 [.slice a0a a0n a0k] H = some r := by
  refine KR.enter (fn := Try.f17) (c := B) (by kernel_rfl) (by kernel_rfl) ?_
  refine KR.run 7 [(3, .slice a0a a0n a0k)] 7 (s' := (.reg (opsAt (sub B [1, 0])) [1, 2, 3, 4] :: S0)) (by kernel_rfl) fun J => ?_
  obtain ⟨t4a, t4n, t4k, H_1, q1, h⟩ := h
  refine KR.se (one_ap 1 1 (by kernel_rfl) q1) ?_
  refine KR.run 1 [(5, .agg #[.slice t4a t4n t4k, .int .i64 0, .int .i64 0])] 7 (s' := (.reg (opsAt (sub B [1, 0])) [3, 4] :: S0)) (by kernel_rfl) fun J => ?_
  obtain ⟨H_2, q2, h⟩ := h
  refine KR.mk (w := pRow [.slice t4a t4n t4k, .int .i64 0, .int .i64 0]) (one_al (by kernel_rfl)) q2 ?_
  refine KR.run 2 [(2, .pointer (some ⟨H_1.next, 0, none⟩))] 7 (s' := (.code (sub B [1, 1]) :: [])) (by kernel_rfl) fun J => ?_
  exact KR.fin (by kernel_rfl) h
end F17
/-! #### 18 (*campanile/bits.Reader).Take -/
namespace F18
noncomputable def B : Code := bodyOf Try.f18
noncomputable def S0 : List It := (.code (sub B [1, 1]) :: [])
noncomputable def S2 : List It := (.code (sub B [1, 1, 1, 1]) :: [])
noncomputable def S1 : List It := (.code (sub B [1, 0, 1]) :: S0)
noncomputable def S3 : List It := (.blk 0 :: S2)
noncomputable def S4 : List It := (.lp (sub B [1, 1, 1, 0, 1, 0, 0]) :: S3)
noncomputable def S5 : List It := (.code (sub B [1, 1, 1, 0, 1, 0, 0, 1, 1]) :: S4)
noncomputable def S6 : List It := (.code (sub B [1, 1, 1, 0, 1, 0, 0, 1, 1, 1]) :: S4)
noncomputable def S7 : List It := (.blk 1 :: S6)
def L0 (t0 : Option Addr) (t1 : Int) (t14 : Bool) (H : Heap) (r : Value × Heap) : Prop := ∀ J, KR Try.prog good Try.f18 S1 (mat J 25 [(0, .pointer t0), (1, .int .i64 t1), (14, .bool t14)]) H r
def L1 (t0 : Option Addr) (t5 : Int) (t15 : Int) (t16 : Int) (H : Heap) (r : Value × Heap) : Prop := ∀ J, KR Try.prog good Try.f18 S4 (mat J 25 [(0, .pointer t0), (5, .int .u64 t5), (15, .int .i64 t15), (16, .int .i64 t16)]) H r
theorem L0_step {t0 : Option Addr} {t1 : Int} {t14 : Bool} {H : Heap} {r : Value × Heap} (h :
    if t14 = true then
    (r = (.int .u64 0, H))
    else
    (L1 (t0) 0 (t1) 0 H r)) :
    L0 t0 t1 t14 H r := by
  intro J
  show KR _ _ _ (.code (sub B [1, 0, 1]) :: S0) _ _ _
  by_cases c4 : t14 = true
  · replace h := iteT c4 h
    refine KR.br true (by kernel_rfl) (vB (bT c4)) ?_
    refine KR.run 4 [(4, .int .u64 0)] 25 (s' := (.code (sub B [1, 0, 1, 0, 1]) :: S0)) (by kernel_rfl) fun J => ?_
    exact KR.fin (by kernel_rfl) h
  · replace h := iteF c4 h
    refine KR.br false (by kernel_rfl) (vB (bF c4)) ?_
    exact KR.run 13 [(0, .pointer t0), (5, .int .u64 0), (15, .int .i64 t1), (16, .int .i64 0)] 25 (s' := (.lp (sub B [1, 1, 1, 0, 1, 0, 0]) :: S3)) (by kernel_rfl) h
theorem L1_step {t0 : Option Addr} {t5 : Int} {t15 : Int} {t16 : Int} {H : Heap} {r : Value × Heap} (h :
    if t16 < t15 then
    (∃ (t21 : Int) (H_1 : Heap), xC Try.prog good 53 [.pointer t0] H = some (.int .u64 t21, H_1) ∧
    (L1 (t0) ((ior .u64 (ishl .u64 t5 1) t21)) (t15) ((IntKind.wrap .i64 (t16 + 1))) H_1 r))
    else
    (r = (.int .u64 t5, H))) :
    L1 t0 t5 t15 t16 H r := by
  intro J
  show KR _ _ _ (.lp (sub B [1, 1, 1, 0, 1, 0, 0]) :: S3) _ _ _
  refine KR.run 6 [(0, .pointer t0), (5, .int .u64 t5), (15, .int .i64 t15), (16, .int .i64 t16), (17, .bool (decide (t16 < t15)))] 25 (s' := (.code (sub B [1, 1, 1, 0, 1, 0, 0, 1, 0]) :: S5)) (by kernel_rfl) fun J => ?_
  by_cases c5 : t16 < t15
  · replace h := iteT c5 h
    refine KR.br true (by kernel_rfl) (vB (dT c5)) ?_
    refine KR.run 7 [(0, .pointer t0), (15, .int .i64 t15), (16, .int .i64 t16), (19, .int .u64 (ishl .u64 t5 1)), (20, .pointer t0)] 25 (s' := (.reg (opsAt (sub B [1, 1, 1, 0, 1, 0, 0, 1, 1, 0, 0])) [3, 4, 5] :: S7)) (by kernel_rfl) fun J => ?_
    obtain ⟨t21, H_1, q6, h⟩ := h
    refine KR.se (one_ca (by kernel_rfl) q6) ?_
    exact KR.run 8 [(0, .pointer t0), (5, .int .u64 (ior .u64 (ishl .u64 t5 1) t21)), (15, .int .i64 t15), (16, .int .i64 (IntKind.wrap .i64 (t16 + 1)))] 25 (s' := (.lp (sub B [1, 1, 1, 0, 1, 0, 0]) :: S3)) (by kernel_rfl) h
  · replace h := iteF c5 h
    refine KR.br false (by kernel_rfl) (vB (dF c5)) ?_
    refine KR.run 6 [(4, .int .u64 t5)] 25 (s' := (.code (sub B [1, 1, 1, 1, 1]) :: [])) (by kernel_rfl) fun J => ?_
    exact KR.fin (by kernel_rfl) h
theorem call {a0 : Option Addr} {a1 : Int} {H : Heap} {r : Value × Heap} (h :
    ∃ (t7 : Bool) (H_1 : Heap), xC Try.prog good 51 [.int .i64 a1] H = some (.bool t7, H_1) ∧
    (if t7 = true then
    (∃ (t12 : Bool) (H_2 : Heap), xC Try.prog good 52 [.pointer a0, .int .i64 a1] H_1 = some (.bool t12, H_2) ∧
    (L0 (a0) (a1) ((!t12)) H_2 r))
    else
    (L0 (a0) (a1) (true) H_1 r))) :
    xC Try.prog good 18 [.pointer a0, .int .i64 a1] H = some r := by
  refine KR.enter (fn := Try.f18) (c := B) (by kernel_rfl) (by kernel_rfl) ?_
  refine KR.run 8 [(0, .pointer a0), (1, .int .i64 a1), (6, .int .i64 a1)] 25 (s' := (.reg (opsAt (sub B [1, 0, 0])) [1, 2, 3, 4, 5, 6, 7, 8] :: S1)) (by kernel_rfl) fun J => ?_
  obtain ⟨t7, H_1, q1, h⟩ := h
  refine KR.se (one_ca (by kernel_rfl) q1) ?_
  refine KR.run 2 [(0, .pointer a0), (1, .int .i64 a1), (9, .bool (!t7))] 25 (s' := (.reg (opsAt (sub B [1, 0, 0])) [4, 5, 6, 7, 8] :: S1)) (by kernel_rfl) fun J => ?_
  by_cases c2 : t7 = true
  · replace h := iteT c2 h
    refine KR.setV 9 (by kernel_rfl) (nB (bT c2)) ?_
    refine KR.run 2 [(0, .pointer a0), (1, .int .i64 a1), (9, .bool false), (10, .pointer a0), (11, .int .i64 a1)] 25 (s' := (.reg (opsAt (sub B [1, 0, 0])) [6, 7, 8] :: S1)) (by kernel_rfl) fun J => ?_
    obtain ⟨t12, H_2, q3, h⟩ := h
    refine KR.se (one_ca (by kernel_rfl) q3) ?_
    exact KR.run 3 [(0, .pointer a0), (1, .int .i64 a1), (14, .bool (!t12))] 25 (s' := (.code (sub B [1, 0, 1]) :: S0)) (by kernel_rfl) h
  · replace h := iteF c2 h
    refine KR.setV 9 (by kernel_rfl) (nB (bF c2)) ?_
    exact KR.run 6 [(0, .pointer a0), (1, .int .i64 a1), (14, .bool true)] 25 (s' := (.code (sub B [1, 0, 1]) :: S0)) (by kernel_rfl) h
end F18
/-! #### 19 campanile/campanilelaw3.awake -/
namespace F19
noncomputable def B : Code := bodyOf Try.f19
noncomputable def S0 : List It := (.code (sub B [1, 1]) :: [])
noncomputable def S1 : List It := (.code (sub B [1, 1, 1]) :: [])
noncomputable def S2 : List It := (.code (sub B [1, 1, 1, 1]) :: [])
noncomputable def S3 : List It := (.code (sub B [1, 1, 1, 1, 1]) :: [])
noncomputable def S4 : List It := (.code (sub B [1, 1, 1, 1, 1, 1]) :: [])
theorem call  {H : Heap} {r : Value × Heap} (h :
    ∃ (H_1 : Heap), H_1 = H.push (.row [.slice none 0 0, .int .i64 0] true) ∧
    (∃ (H_2 : Heap), xC Try.prog good 14 [.pointer (some ⟨H.next, 0, none⟩), .int .u64 5, .int .i64 3] H_1 = some (.tuple #[], H_2) ∧
    (∃ (H_3 : Heap), xC Try.prog good 14 [.pointer (some ⟨H.next, 0, none⟩), .int .u64 1, .int .i64 2] H_2 = some (.tuple #[], H_3) ∧
    (∃ (H_4 : Heap), xC Try.prog good 14 [.pointer (some ⟨H.next, 0, none⟩), .int .u64 258, .int .i64 40] H_3 = some (.tuple #[], H_4) ∧
    (∃ (t11a : Option Addr) (t11n : Nat) (t11k : Nat) (H_5 : Heap), xC Try.prog good 16 [.pointer (some ⟨H.next, 0, none⟩)] H_4 = some (.slice t11a t11n t11k, H_5) ∧
    (∃ (t12 : ByteArray), pstrb H_5 t11a t11n = some t12 ∧
    (if t12.toList = (strC [168, 0, 0, 0, 8, 16]).toList then
    (∃ (t16 : Int) (H_6 : Heap), xC Try.prog good 15 [.pointer (some ⟨H.next, 0, none⟩)] H_5 = some (.int .i64 t16, H_6) ∧
    (r = (.bool (t16 == 45), H_6)))
    else
    (r = (.bool false, H_5))))))))) :
    xC Try.prog good 19 [] H = some r := by
  refine KR.enter (fn := Try.f19) (c := B) (by kernel_rfl) (by kernel_rfl) ?_
  refine KR.run 7 [(2, .agg #[.slice none 0 0, .int .i64 0])] 19 (s' := (.reg (opsAt (sub B [1, 0])) [1, 2] :: S0)) (by kernel_rfl) fun J => ?_
  obtain ⟨H_1, q1, h⟩ := h
  refine KR.mk (w := pRow [.slice none 0 0, .int .i64 0]) (one_al (by kernel_rfl)) q1 ?_
  refine KR.run 5 [(1, .pointer (some ⟨H.next, 0, none⟩)), (4, .pointer (some ⟨H.next, 0, none⟩))] 19 (s' := (.reg (opsAt (sub B [1, 1, 0])) [1] :: S1)) (by kernel_rfl) fun J => ?_
  obtain ⟨H_2, q2, h⟩ := h
  refine KR.se (one_ca (by kernel_rfl) q2) ?_
  refine KR.run 4 [(1, .pointer (some ⟨H.next, 0, none⟩)), (6, .pointer (some ⟨H.next, 0, none⟩))] 19 (s' := (.reg (opsAt (sub B [1, 1, 1, 0])) [1] :: S2)) (by kernel_rfl) fun J => ?_
  obtain ⟨H_3, q3, h⟩ := h
  refine KR.se (one_ca (by kernel_rfl) q3) ?_
  refine KR.run 4 [(1, .pointer (some ⟨H.next, 0, none⟩)), (8, .pointer (some ⟨H.next, 0, none⟩))] 19 (s' := (.reg (opsAt (sub B [1, 1, 1, 1, 0])) [1] :: S3)) (by kernel_rfl) fun J => ?_
  obtain ⟨H_4, q4, h⟩ := h
  refine KR.se (one_ca (by kernel_rfl) q4) ?_
  refine KR.run 4 [(1, .pointer (some ⟨H.next, 0, none⟩)), (10, .pointer (some ⟨H.next, 0, none⟩))] 19 (s' := (.reg (opsAt (sub B [1, 1, 1, 1, 1, 0])) [1, 2, 3, 4, 5, 6, 7, 8, 9] :: S4)) (by kernel_rfl) fun J => ?_
  obtain ⟨t11a, t11n, t11k, H_5, q5, h⟩ := h
  refine KR.se (one_ca (by kernel_rfl) q5) ?_
  obtain ⟨t12, q6, h⟩ := h
  refine KR.rd (one_str (by kernel_rfl) q6) ?_
  refine KR.run 2 [(1, .pointer (some ⟨H.next, 0, none⟩)), (14, .bool (t12.toList == (strC [168, 0, 0, 0, 8, 16]).toList))] 19 (s' := (.reg (opsAt (sub B [1, 1, 1, 1, 1, 0])) [5, 6, 7, 8, 9] :: S4)) (by kernel_rfl) fun J => ?_
  by_cases c7 : t12.toList = (strC [168, 0, 0, 0, 8, 16]).toList
  · replace h := iteT c7 h
    refine KR.setV 14 (by kernel_rfl) (eT c7) ?_
    refine KR.run 1 [(14, .bool true), (15, .pointer (some ⟨H.next, 0, none⟩))] 19 (s' := (.reg (opsAt (sub B [1, 1, 1, 1, 1, 0])) [6, 7, 8, 9] :: S4)) (by kernel_rfl) fun J => ?_
    obtain ⟨t16, H_6, q8, h⟩ := h
    refine KR.se (one_ca (by kernel_rfl) q8) ?_
    refine KR.run 4 [(0, .bool (t16 == 45))] 19 (s' := (.code (sub B [1, 1, 1, 1, 1, 1]) :: [])) (by kernel_rfl) fun J => ?_
    exact KR.fin (by kernel_rfl) h
  · replace h := iteF c7 h
    refine KR.setV 14 (by kernel_rfl) (eF c7) ?_
    refine KR.run 6 [(0, .bool false)] 19 (s' := (.code (sub B [1, 1, 1, 1, 1, 1]) :: [])) (by kernel_rfl) fun J => ?_
    exact KR.fin (by kernel_rfl) h
end F19
/-! #### 29 campanile/campanilelaw3.few -/
namespace F29
noncomputable def B : Code := bodyOf Try.f29
noncomputable def S0 : List It := (.code (sub B [1, 1, 1]) :: [])
noncomputable def S1 : List It := (.blk 0 :: S0)
noncomputable def S2 : List It := (.lp (sub B [1, 1, 0, 1, 0, 0]) :: S1)
noncomputable def S3 : List It := (.code (sub B [1, 1, 0, 1, 0, 0, 1, 1]) :: S2)
noncomputable def S4 : List It := (.code (sub B [1, 1, 0, 1, 0, 0, 1, 1, 1]) :: S2)
noncomputable def S5 : List It := (.blk 1 :: S4)
noncomputable def S6 : List It := (.code (sub B [1, 1, 0, 1, 0, 0, 1, 1, 0, 0, 1]) :: S5)
noncomputable def S7 : List It := (.code (sub B [1, 1, 0, 1, 0, 0, 1, 1, 0, 0, 1, 1]) :: S5)
noncomputable def S8 : List It := (.code (sub B [1, 1, 0, 1, 0, 0, 1, 1, 0, 0, 1, 1, 1]) :: S5)
def L0 (t3 : Int) (t6a : Option Addr) (t6n : Nat) (t6k : Nat) (t7 : Int) (t8 : Int) (H : Heap) (r : Value × Heap) : Prop := ∀ J, KR Try.prog good Try.f29 S2 (mat J 25 [(3, .int .i64 t3), (6, .slice t6a t6n t6k), (7, .int .i64 t7), (8, .int .i64 t8)]) H r
def L1 (t3 : Int) (t6b : Nat) (t6o : Nat) (t6n : Nat) (t6k : Nat) (t7 : Int) (t8 : Int) (t23 : Bool) (H : Heap) (r : Value × Heap) : Prop := ∀ J, KR Try.prog good Try.f29 S8 (mat J 25 [(3, .int .i64 t3), (6, .slice (some ⟨t6b, t6o, none⟩) t6n t6k), (7, .int .i64 t7), (8, .int .i64 t8), (23, .bool t23)]) H r
theorem L0_step {t3 : Int} {t6a : Option Addr} {t6n : Nat} {t6k : Nat} {t7 : Int} {t8 : Int} {H : Heap} {r : Value × Heap} (h :
    if t8 < t7 then
    (∃ (t6ab t6ao : Nat), t6a = some ⟨t6ab, t6ao, none⟩ ∧
    ((0 : Int) ≤ t8 ∧ t8 < ((t6n : Nat) : Int) ∧
    (∃ (t12c0 : Int) (t12c1 : Int) (t12c2 : Bool) (t12c3 : Bool) (t12c4a : Option Addr) (t12c4n : Nat) (t12c4k : Nat), ldAll H t6ab (t6ao + Int.toNat t8 * 5) [.int .u64 t12c0, .int .i64 t12c1, .bool t12c2, .bool t12c3, .slice t12c4a t12c4n t12c4k] ∧
    (∃ (H_1 : Heap), H_1 = H.push (.row [.int .u64 0, .int .i64 0, .bool false, .bool false, .slice none 0 0] true) ∧
    (∃ (H_2 : Heap), stc H_1 H.next 0 [.int .u64 t12c0, .int .i64 t12c1, .bool t12c2, .bool t12c3, .slice t12c4a t12c4n t12c4k] = some H_2 ∧
    (∃ (t15a : Option Addr) (t15n : Nat) (t15k : Nat), ldc H_2 H.next 4 = some (.slice t15a t15n t15k) ∧
    (if t8 ≥ 100 then
    (L1 ((IntKind.wrap .i64 (t3 + ((t15n : Nat) : Int)))) (t6ab) (t6ao) (t6n) (t6k) (t7) (t8) (true) H_2 r)
    else
    (L1 ((IntKind.wrap .i64 (t3 + ((t15n : Nat) : Int)))) (t6ab) (t6ao) (t6n) (t6k) (t7) (t8) ((decide ((IntKind.wrap .i64 (t3 + ((t15n : Nat) : Int))) > 1000))) H_2 r))))))))
    else
    (r = (.bool true, H))) :
    L0 t3 t6a t6n t6k t7 t8 H r := by
  intro J
  show KR _ _ _ (.lp (sub B [1, 1, 0, 1, 0, 0]) :: S1) _ _ _
  refine KR.run 6 [(3, .int .i64 t3), (6, .slice t6a t6n t6k), (7, .int .i64 t7), (8, .int .i64 t8), (9, .bool (decide (t8 < t7)))] 25 (s' := (.code (sub B [1, 1, 0, 1, 0, 0, 1, 0]) :: S3)) (by kernel_rfl) fun J => ?_
  by_cases c1 : t8 < t7
  · replace h := iteT c1 h
    refine KR.br true (by kernel_rfl) (vB (dT c1)) ?_
    obtain ⟨t6ab, t6ao, rfl, h⟩ := h
    refine KR.run 6 [(3, .int .i64 t3), (6, .slice (some ⟨t6ab, t6ao, none⟩) t6n t6k), (7, .int .i64 t7), (8, .int .i64 t8), (10, .int .i64 t8)] 25 (s' := (.reg (opsAt (sub B [1, 1, 0, 1, 0, 0, 1, 1, 0, 0, 0])) [1, 2, 3, 4, 5] :: S6)) (by kernel_rfl) fun J => ?_
    obtain ⟨q2, q2x, h⟩ := h
    refine KR.p (one_ix 5 t6ab t6ao (by kernel_rfl) q2 q2x) ?_
    obtain ⟨t12c0, t12c1, t12c2, t12c3, t12c4a, t12c4n, t12c4k, q3, h⟩ := h
    refine KR.rd (one_ldA (by kernel_rfl) q3) ?_
    obtain ⟨H_1, q4, h⟩ := h
    refine KR.mk (w := pRow [.int .u64 0, .int .i64 0, .bool false, .bool false, .slice none 0 0]) (one_al (by kernel_rfl)) q4 ?_
    refine KR.run 1 [(3, .int .i64 t3), (4, .int .i64 t8), (5, .pointer (some ⟨H.next, 0, none⟩)), (6, .slice (some ⟨t6ab, t6ao, none⟩) t6n t6k), (7, .int .i64 t7), (8, .int .i64 t8), (12, .agg #[.int .u64 t12c0, .int .i64 t12c1, .bool t12c2, .bool t12c3, .slice t12c4a t12c4n t12c4k])] 25 (s' := (.reg (opsAt (sub B [1, 1, 0, 1, 0, 0, 1, 1, 0, 0, 0])) [5] :: S6)) (by kernel_rfl) fun J => ?_
    obtain ⟨H_2, q5, h⟩ := h
    refine KR.se (one_st (by kernel_rfl) q5) ?_
    refine KR.run 5 [(4, .int .i64 t8), (6, .slice (some ⟨t6ab, t6ao, none⟩) t6n t6k), (7, .int .i64 t7), (8, .int .i64 t8), (13, .int .i64 t3), (14, .pointer (some ⟨H.next, 4, none⟩))] 25 (s' := (.reg (opsAt (sub B [1, 1, 0, 1, 0, 0, 1, 1, 0, 0, 1, 0])) [2, 3, 4, 5] :: S7)) (by kernel_rfl) fun J => ?_
    obtain ⟨t15a, t15n, t15k, q6, h⟩ := h
    refine KR.rd (one_ld (by kernel_rfl) q6) ?_
    refine KR.run 9 [(3, .int .i64 (IntKind.wrap .i64 (t3 + ((t15n : Nat) : Int)))), (6, .slice (some ⟨t6ab, t6ao, none⟩) t6n t6k), (7, .int .i64 t7), (8, .int .i64 t8), (20, .bool (decide (t8 ≥ 100)))] 25 (s' := (.reg (opsAt (sub B [1, 1, 0, 1, 0, 0, 1, 1, 0, 0, 1, 1, 0])) [3, 4, 5] :: S8)) (by kernel_rfl) fun J => ?_
    by_cases c7 : t8 ≥ 100
    · replace h := iteT c7 h
      refine KR.setV 20 (by kernel_rfl) (dT c7) ?_
      exact KR.run 4 [(3, .int .i64 (IntKind.wrap .i64 (t3 + ((t15n : Nat) : Int)))), (6, .slice (some ⟨t6ab, t6ao, none⟩) t6n t6k), (7, .int .i64 t7), (8, .int .i64 t8), (23, .bool true)] 25 (s' := (.code (sub B [1, 1, 0, 1, 0, 0, 1, 1, 0, 0, 1, 1, 1]) :: S5)) (by kernel_rfl) h
    · replace h := iteF c7 h
      refine KR.setV 20 (by kernel_rfl) (dF c7) ?_
      exact KR.run 4 [(3, .int .i64 (IntKind.wrap .i64 (t3 + ((t15n : Nat) : Int)))), (6, .slice (some ⟨t6ab, t6ao, none⟩) t6n t6k), (7, .int .i64 t7), (8, .int .i64 t8), (23, .bool (decide ((IntKind.wrap .i64 (t3 + ((t15n : Nat) : Int))) > 1000)))] 25 (s' := (.code (sub B [1, 1, 0, 1, 0, 0, 1, 1, 0, 0, 1, 1, 1]) :: S5)) (by kernel_rfl) h
  · replace h := iteF c1 h
    refine KR.br false (by kernel_rfl) (vB (dF c1)) ?_
    refine KR.run 5 [(2, .bool true)] 25 (s' := (.code (sub B [1, 1, 1, 1]) :: [])) (by kernel_rfl) fun J => ?_
    exact KR.fin (by kernel_rfl) h
theorem L1_step {t3 : Int} {t6b : Nat} {t6o : Nat} {t6n : Nat} {t6k : Nat} {t7 : Int} {t8 : Int} {t23 : Bool} {H : Heap} {r : Value × Heap} (h :
    if t23 = true then
    (r = (.bool false, H))
    else
    (L0 (t3) ((some ⟨t6b, t6o, none⟩)) (t6n) (t6k) (t7) ((IntKind.wrap .i64 (t8 + 1))) H r)) :
    L1 t3 t6b t6o t6n t6k t7 t8 t23 H r := by
  intro J
  show KR _ _ _ (.code (sub B [1, 1, 0, 1, 0, 0, 1, 1, 0, 0, 1, 1, 1]) :: S5) _ _ _
  by_cases c8 : t23 = true
  · replace h := iteT c8 h
    refine KR.br true (by kernel_rfl) (vB (bT c8)) ?_
    refine KR.run 4 [(2, .bool false)] 25 (s' := (.code (sub B [1, 1, 0, 1, 0, 0, 1, 1, 0, 0, 1, 1, 1, 0, 1]) :: S5)) (by kernel_rfl) fun J => ?_
    exact KR.fin (by kernel_rfl) h
  · replace h := iteF c8 h
    refine KR.br false (by kernel_rfl) (vB (bF c8)) ?_
    exact KR.run 6 [(3, .int .i64 t3), (6, .slice (some ⟨t6b, t6o, none⟩) t6n t6k), (7, .int .i64 t7), (8, .int .i64 (IntKind.wrap .i64 (t8 + 1)))] 25 (s' := (.lp (sub B [1, 1, 0, 1, 0, 0]) :: S1)) (by kernel_rfl) h
theorem call {a0a : Option Addr} {a0n : Nat} {a0k : Nat} {H : Heap} {r : Value × Heap} (h :
    L0 0 (a0a) (a0n) (a0k) (((a0n : Nat) : Int)) 0 H r) :
    xC Try.prog good 29 [.slice a0a a0n a0k] H = some r := by
  refine KR.enter (fn := Try.f29) (c := B) (by kernel_rfl) (by kernel_rfl) ?_
  exact KR.run 17 [(3, .int .i64 0), (6, .slice a0a a0n a0k), (7, .int .i64 ((a0n : Nat) : Int)), (8, .int .i64 0)] 25 (s' := (.lp (sub B [1, 1, 0, 1, 0, 0]) :: S1)) (by kernel_rfl) h
end F29
/-! #### 30 campanile/campanileref1.RowOf -/
namespace F30
noncomputable def B : Code := bodyOf Try.f30
noncomputable def S0 : List It := (.code (sub B [1, 1]) :: [])
noncomputable def S1 : List It := (.code (sub B [1, 1, 1]) :: [])
theorem call {a0a : Option Addr} {a0n : Nat} {a0k : Nat} {H : Heap} {r : Value × Heap} (h :
    ∃ (H_1 : Heap), H_1 = H.push (.row [.slice none 0 0, .int .i64 0] true) ∧
    (∃ (H_2 : Heap), xC Try.prog good 63 [.pointer (some ⟨H.next, 0, none⟩), .slice a0a a0n a0k] H_1 = some (.tuple #[], H_2) ∧
    (r = (.pointer (some ⟨H.next, 0, none⟩), H_2)))) :
    xC Try.prog good 30 [.slice a0a a0n a0k] H = some r := by
  refine KR.enter (fn := Try.f30) (c := B) (by kernel_rfl) (by kernel_rfl) ?_
  refine KR.run 7 [(0, .slice a0a a0n a0k), (4, .agg #[.slice none 0 0, .int .i64 0])] 10 (s' := (.reg (opsAt (sub B [1, 0])) [1, 2] :: S0)) (by kernel_rfl) fun J => ?_
  obtain ⟨H_1, q1, h⟩ := h
  refine KR.mk (w := pRow [.slice none 0 0, .int .i64 0]) (one_al (by kernel_rfl)) q1 ?_
  refine KR.run 6 [(3, .pointer (some ⟨H.next, 0, none⟩)), (6, .pointer (some ⟨H.next, 0, none⟩)), (7, .slice a0a a0n a0k)] 10 (s' := (.reg (opsAt (sub B [1, 1, 0])) [2] :: S1)) (by kernel_rfl) fun J => ?_
  obtain ⟨H_2, q2, h⟩ := h
  refine KR.se (one_ca (by kernel_rfl) q2) ?_
  refine KR.run 6 [(2, .pointer (some ⟨H.next, 0, none⟩))] 10 (s' := (.code (sub B [1, 1, 1, 1]) :: [])) (by kernel_rfl) fun J => ?_
  exact KR.fin (by kernel_rfl) h
end F30
/-! #### 31 (*campanile/bits.Reader).Text -/
namespace F31
noncomputable def B : Code := bodyOf Try.f31
noncomputable def S0 : List It := (.code (sub B [1, 1]) :: [])
noncomputable def S2 : List It := (.code (sub B [1, 1, 1, 1]) :: [])
noncomputable def S1 : List It := (.code (sub B [1, 0, 1]) :: S0)
noncomputable def S3 : List It := (.blk 0 :: S2)
noncomputable def S4 : List It := (.lp (sub B [1, 1, 1, 0, 1, 0, 0]) :: S3)
noncomputable def S5 : List It := (.code (sub B [1, 1, 1, 0, 1, 0, 0, 1, 1]) :: S4)
noncomputable def S6 : List It := (.code (sub B [1, 1, 1, 0, 1, 0, 0, 1, 1, 1]) :: S4)
noncomputable def S7 : List It := (.blk 1 :: S6)
def L0 (t0 : Option Addr) (t1 : Int) (t19 : Bool) (H : Heap) (r : Value × Heap) : Prop := ∀ J, KR Try.prog good Try.f31 S1 (mat J 31 [(0, .pointer t0), (1, .int .i64 t1), (19, .bool t19)]) H r
def L1 (t0 : Option Addr) (t5a : Option Addr) (t5n : Nat) (t5k : Nat) (t20 : Int) (t21 : Int) (H : Heap) (r : Value × Heap) : Prop := ∀ J, KR Try.prog good Try.f31 S4 (mat J 31 [(0, .pointer t0), (5, .slice t5a t5n t5k), (20, .int .i64 t20), (21, .int .i64 t21)]) H r
theorem L0_step {t0 : Option Addr} {t1 : Int} {t19 : Bool} {H : Heap} {r : Value × Heap} (h :
    if t19 = true then
    (r = (.slice none 0 0, H))
    else
    (L1 (t0) (none) (0) (0) (t1) 0 H r)) :
    L0 t0 t1 t19 H r := by
  intro J
  show KR _ _ _ (.code (sub B [1, 0, 1]) :: S0) _ _ _
  by_cases c4 : t19 = true
  · replace h := iteT c4 h
    refine KR.br true (by kernel_rfl) (vB (bT c4)) ?_
    refine KR.run 4 [(4, .slice none 0 0)] 31 (s' := (.code (sub B [1, 0, 1, 0, 1]) :: S0)) (by kernel_rfl) fun J => ?_
    exact KR.fin (by kernel_rfl) h
  · replace h := iteF c4 h
    refine KR.br false (by kernel_rfl) (vB (bF c4)) ?_
    exact KR.run 13 [(0, .pointer t0), (5, .slice none 0 0), (20, .int .i64 t1), (21, .int .i64 0)] 31 (s' := (.lp (sub B [1, 1, 1, 0, 1, 0, 0]) :: S3)) (by kernel_rfl) h
theorem L1_step {t0 : Option Addr} {t5a : Option Addr} {t5n : Nat} {t5k : Nat} {t20 : Int} {t21 : Int} {H : Heap} {r : Value × Heap} (h :
    if t21 < t20 then
    (∃ (t25 : Int) (H_1 : Heap), xC Try.prog good 18 [.pointer t0, .int .i64 8] H = some (.int .u64 t25, H_1) ∧
    (∃ (H_2 : Heap), H_2 = H_1.push (.row [.int .u8 (IntKind.wrap .u8 t25)] true) ∧
    (∃ (t28a : Option Addr) (t28n : Nat) (t28k : Nat) (H_3 : Heap), papp H_2 1 1 t5a t5n t5k (some ⟨H_1.next, 0, none⟩) 1 (UNK 1) = some ((t28a, t28n, t28k), H_3) ∧
    (L1 (t0) (t28a) (t28n) (t28k) (t20) ((IntKind.wrap .i64 (t21 + 1))) H_3 r))))
    else
    (r = (.slice t5a t5n t5k, H))) :
    L1 t0 t5a t5n t5k t20 t21 H r := by
  intro J
  show KR _ _ _ (.lp (sub B [1, 1, 1, 0, 1, 0, 0]) :: S3) _ _ _
  refine KR.run 6 [(0, .pointer t0), (5, .slice t5a t5n t5k), (20, .int .i64 t20), (21, .int .i64 t21), (22, .bool (decide (t21 < t20)))] 31 (s' := (.code (sub B [1, 1, 1, 0, 1, 0, 0, 1, 0]) :: S5)) (by kernel_rfl) fun J => ?_
  by_cases c5 : t21 < t20
  · replace h := iteT c5 h
    refine KR.br true (by kernel_rfl) (vB (dT c5)) ?_
    refine KR.run 6 [(0, .pointer t0), (20, .int .i64 t20), (21, .int .i64 t21), (23, .slice t5a t5n t5k), (24, .pointer t0)] 31 (s' := (.reg (opsAt (sub B [1, 1, 1, 0, 1, 0, 0, 1, 1, 0, 0])) [2, 3, 4, 5, 6] :: S7)) (by kernel_rfl) fun J => ?_
    obtain ⟨t25, H_1, q6, h⟩ := h
    refine KR.se (one_ca (by kernel_rfl) q6) ?_
    refine KR.run 1 [(0, .pointer t0), (20, .int .i64 t20), (21, .int .i64 t21), (23, .slice t5a t5n t5k), (26, .int .u8 (IntKind.wrap .u8 t25))] 31 (s' := (.reg (opsAt (sub B [1, 1, 1, 0, 1, 0, 0, 1, 1, 0, 0])) [4, 5, 6] :: S7)) (by kernel_rfl) fun J => ?_
    obtain ⟨H_2, q7, h⟩ := h
    refine KR.mk (w := sRow 1 1 [.int .u8 (IntKind.wrap .u8 t25)]) (one_al (by kernel_rfl)) q7 ?_
    obtain ⟨t28a, t28n, t28k, H_3, q8, h⟩ := h
    refine KR.se (one_ap 1 1 (by kernel_rfl) q8) ?_
    exact KR.run 7 [(0, .pointer t0), (5, .slice t28a t28n t28k), (20, .int .i64 t20), (21, .int .i64 (IntKind.wrap .i64 (t21 + 1)))] 31 (s' := (.lp (sub B [1, 1, 1, 0, 1, 0, 0]) :: S3)) (by kernel_rfl) h
  · replace h := iteF c5 h
    refine KR.br false (by kernel_rfl) (vB (dF c5)) ?_
    refine KR.run 6 [(4, .slice t5a t5n t5k)] 31 (s' := (.code (sub B [1, 1, 1, 1, 1]) :: [])) (by kernel_rfl) fun J => ?_
    exact KR.fin (by kernel_rfl) h
theorem call {a0 : Option Addr} {a1 : Int} {H : Heap} {r : Value × Heap} (h :
    if a1 ≤ 0 then
    (L0 (a0) (a1) (true) H r)
    else
    (∃ (t12a : Option Addr) (t12n : Nat) (t12k : Nat) (H_1 : Heap), xC Try.prog good 64 [.pointer a0] H = some (.slice t12a t12n t12k, H_1) ∧
    (∃ (t17 : Bool) (H_2 : Heap), xC Try.prog good 52 [.pointer a0, .int .i64 (IntKind.wrap .i64 ((imin a1 (IntKind.wrap .i64 (((t12n : Nat) : Int) + 1))) * 8))] H_1 = some (.bool t17, H_2) ∧
    (L0 (a0) (a1) ((!t17)) H_2 r)))) :
    xC Try.prog good 31 [.pointer a0, .int .i64 a1] H = some r := by
  refine KR.enter (fn := Try.f31) (c := B) (by kernel_rfl) (by kernel_rfl) ?_
  refine KR.run 10 [(0, .pointer a0), (1, .int .i64 a1), (8, .bool (decide (a1 ≤ 0)))] 31 (s' := (.reg (opsAt (sub B [1, 0, 0])) [3, 4, 5, 6, 7, 8, 9, 10, 11, 12, 13] :: S1)) (by kernel_rfl) fun J => ?_
  by_cases c1 : a1 ≤ 0
  · replace h := iteT c1 h
    refine KR.setV 8 (by kernel_rfl) (dT c1) ?_
    exact KR.run 12 [(0, .pointer a0), (1, .int .i64 a1), (19, .bool true)] 31 (s' := (.code (sub B [1, 0, 1]) :: S0)) (by kernel_rfl) h
  · replace h := iteF c1 h
    refine KR.setV 8 (by kernel_rfl) (dF c1) ?_
    refine KR.run 3 [(0, .pointer a0), (1, .int .i64 a1), (8, .bool false), (9, .pointer a0), (10, .int .i64 a1), (11, .pointer a0)] 31 (s' := (.reg (opsAt (sub B [1, 0, 0])) [6, 7, 8, 9, 10, 11, 12, 13] :: S1)) (by kernel_rfl) fun J => ?_
    obtain ⟨t12a, t12n, t12k, H_1, q2, h⟩ := h
    refine KR.se (one_ca (by kernel_rfl) q2) ?_
    refine KR.run 4 [(0, .pointer a0), (1, .int .i64 a1), (8, .bool false), (9, .pointer a0), (16, .int .i64 (IntKind.wrap .i64 ((imin a1 (IntKind.wrap .i64 (((t12n : Nat) : Int) + 1))) * 8)))] 31 (s' := (.reg (opsAt (sub B [1, 0, 0])) [11, 12, 13] :: S1)) (by kernel_rfl) fun J => ?_
    obtain ⟨t17, H_2, q3, h⟩ := h
    refine KR.se (one_ca (by kernel_rfl) q3) ?_
    exact KR.run 3 [(0, .pointer a0), (1, .int .i64 a1), (19, .bool (!t17))] 31 (s' := (.code (sub B [1, 0, 1]) :: S0)) (by kernel_rfl) h
end F31
/-! #### 32 (*campanile/campanileref1.Row).TextOf -/
namespace F32
noncomputable def B : Code := bodyOf Try.f32
noncomputable def S0 : List It := (.code (sub B [1, 1]) :: [])
noncomputable def S2 : List It := (.code (sub B [1, 1, 1]) :: [])
noncomputable def S5 : List It := (.code (sub B [1, 1, 1, 1, 1]) :: [])
noncomputable def S1 : List It := (.code (sub B [1, 0, 1]) :: S0)
noncomputable def S3 : List It := (.code (sub B [1, 1, 0, 1]) :: S2)
noncomputable def S4 : List It := (.code (sub B [1, 1, 0, 1, 0, 1]) :: S2)
noncomputable def S6 : List It := (.blk 0 :: S5)
noncomputable def S7 : List It := (.lp (sub B [1, 1, 1, 1, 0, 1, 0, 0]) :: S6)
noncomputable def S8 : List It := (.code (sub B [1, 1, 1, 1, 0, 1, 0, 0, 1, 1]) :: S7)
noncomputable def S9 : List It := (.code (sub B [1, 1, 1, 1, 0, 1, 0, 0, 1, 1, 1]) :: S7)
noncomputable def S10 : List It := (.blk 1 :: S9)
def L0 (t0 : Option Addr) (t1 : Int) (t14 : Bool) (H : Heap) (r : Value × Heap) : Prop := ∀ J, KR Try.prog good Try.f32 S1 (mat J 36 [(0, .pointer t0), (1, .int .i64 t1), (14, .bool t14)]) H r
def L1 (t0b : Nat) (t0o : Nat) (t5a : Option Addr) (t5n : Nat) (t5k : Nat) (t25 : Int) (t26 : Int) (H : Heap) (r : Value × Heap) : Prop := ∀ J, KR Try.prog good Try.f32 S7 (mat J 36 [(0, .pointer (some ⟨t0b, t0o, none⟩)), (5, .slice t5a t5n t5k), (25, .int .i64 t25), (26, .int .i64 t26)]) H r
theorem L0_step {t0 : Option Addr} {t1 : Int} {t14 : Bool} {H : Heap} {r : Value × Heap} (h :
    if t14 = true then
    (r = (.slice none 0 0, H))
    else
    (∃ (t0b t0o : Nat), t0 = some ⟨t0b, t0o, none⟩ ∧
    (∃ (t19a : Option Addr) (t19n : Nat) (t19k : Nat), ldc H t0b t0o = some (.slice t19a t19n t19k) ∧
    (if t1 > (IntKind.wrap .i64 (Int.tdiv ((t19n : Nat) : Int) 8)) then
    (∃ (H_1 : Heap), xC Try.prog good 65 [.pointer (some ⟨t0b, t0o, none⟩), .int .i64 2] H = some (.tuple #[], H_1) ∧
    (r = (.slice none 0 0, H_1)))
    else
    (L1 (t0b) (t0o) (none) (0) (0) (t1) 0 H r))))) :
    L0 t0 t1 t14 H r := by
  intro J
  show KR _ _ _ (.code (sub B [1, 0, 1]) :: S0) _ _ _
  by_cases c3 : t14 = true
  · replace h := iteT c3 h
    refine KR.br true (by kernel_rfl) (vB (bT c3)) ?_
    refine KR.run 4 [(4, .slice none 0 0)] 36 (s' := (.code (sub B [1, 0, 1, 0, 1]) :: S0)) (by kernel_rfl) fun J => ?_
    exact KR.fin (by kernel_rfl) h
  · replace h := iteF c3 h
    refine KR.br false (by kernel_rfl) (vB (bF c3)) ?_
    obtain ⟨t0b, t0o, rfl, h⟩ := h
    refine KR.run 8 [(0, .pointer (some ⟨t0b, t0o, none⟩)), (1, .int .i64 t1), (15, .int .i64 t1), (18, .pointer (some ⟨t0b, t0o, none⟩))] 36 (s' := (.reg (opsAt (sub B [1, 1, 0, 0])) [4, 5, 6, 7] :: S3)) (by kernel_rfl) fun J => ?_
    obtain ⟨t19a, t19n, t19k, q4, h⟩ := h
    refine KR.rd (one_ld (by kernel_rfl) q4) ?_
    refine KR.run 4 [(0, .pointer (some ⟨t0b, t0o, none⟩)), (1, .int .i64 t1), (22, .bool (decide (t1 > (IntKind.wrap .i64 (Int.tdiv ((t19n : Nat) : Int) 8)))))] 36 (s' := (.code (sub B [1, 1, 0, 1]) :: S2)) (by kernel_rfl) fun J => ?_
    by_cases c5 : t1 > (IntKind.wrap .i64 (Int.tdiv ((t19n : Nat) : Int) 8))
    · replace h := iteT c5 h
      refine KR.br true (by kernel_rfl) (vB (dT c5)) ?_
      refine KR.run 3 [(23, .pointer (some ⟨t0b, t0o, none⟩))] 36 (s' := (.reg (opsAt (sub B [1, 1, 0, 1, 0, 0])) [1] :: S4)) (by kernel_rfl) fun J => ?_
      obtain ⟨H_1, q6, h⟩ := h
      refine KR.se (one_ca (by kernel_rfl) q6) ?_
      refine KR.run 5 [(4, .slice none 0 0)] 36 (s' := (.code (sub B [1, 1, 0, 1, 0, 1, 1]) :: S2)) (by kernel_rfl) fun J => ?_
      exact KR.fin (by kernel_rfl) h
    · replace h := iteF c5 h
      refine KR.br false (by kernel_rfl) (vB (dF c5)) ?_
      exact KR.run 13 [(0, .pointer (some ⟨t0b, t0o, none⟩)), (5, .slice none 0 0), (25, .int .i64 t1), (26, .int .i64 0)] 36 (s' := (.lp (sub B [1, 1, 1, 1, 0, 1, 0, 0]) :: S6)) (by kernel_rfl) h
theorem L1_step {t0b : Nat} {t0o : Nat} {t5a : Option Addr} {t5n : Nat} {t5k : Nat} {t25 : Int} {t26 : Int} {H : Heap} {r : Value × Heap} (h :
    if t26 < t25 then
    (∃ (t30 : Int) (H_1 : Heap), xC Try.prog good 35 [.pointer (some ⟨t0b, t0o, none⟩), .int .i64 8] H = some (.int .u64 t30, H_1) ∧
    (∃ (H_2 : Heap), H_2 = H_1.push (.row [.int .u8 (IntKind.wrap .u8 t30)] true) ∧
    (∃ (t33a : Option Addr) (t33n : Nat) (t33k : Nat) (H_3 : Heap), papp H_2 1 1 t5a t5n t5k (some ⟨H_1.next, 0, none⟩) 1 (UNK 1) = some ((t33a, t33n, t33k), H_3) ∧
    (L1 (t0b) (t0o) (t33a) (t33n) (t33k) (t25) ((IntKind.wrap .i64 (t26 + 1))) H_3 r))))
    else
    (r = (.slice t5a t5n t5k, H))) :
    L1 t0b t0o t5a t5n t5k t25 t26 H r := by
  intro J
  show KR _ _ _ (.lp (sub B [1, 1, 1, 1, 0, 1, 0, 0]) :: S6) _ _ _
  refine KR.run 6 [(0, .pointer (some ⟨t0b, t0o, none⟩)), (5, .slice t5a t5n t5k), (25, .int .i64 t25), (26, .int .i64 t26), (27, .bool (decide (t26 < t25)))] 36 (s' := (.code (sub B [1, 1, 1, 1, 0, 1, 0, 0, 1, 0]) :: S8)) (by kernel_rfl) fun J => ?_
  by_cases c7 : t26 < t25
  · replace h := iteT c7 h
    refine KR.br true (by kernel_rfl) (vB (dT c7)) ?_
    refine KR.run 6 [(0, .pointer (some ⟨t0b, t0o, none⟩)), (25, .int .i64 t25), (26, .int .i64 t26), (28, .slice t5a t5n t5k), (29, .pointer (some ⟨t0b, t0o, none⟩))] 36 (s' := (.reg (opsAt (sub B [1, 1, 1, 1, 0, 1, 0, 0, 1, 1, 0, 0])) [2, 3, 4, 5, 6] :: S10)) (by kernel_rfl) fun J => ?_
    obtain ⟨t30, H_1, q8, h⟩ := h
    refine KR.se (one_ca (by kernel_rfl) q8) ?_
    refine KR.run 1 [(0, .pointer (some ⟨t0b, t0o, none⟩)), (25, .int .i64 t25), (26, .int .i64 t26), (28, .slice t5a t5n t5k), (31, .int .u8 (IntKind.wrap .u8 t30))] 36 (s' := (.reg (opsAt (sub B [1, 1, 1, 1, 0, 1, 0, 0, 1, 1, 0, 0])) [4, 5, 6] :: S10)) (by kernel_rfl) fun J => ?_
    obtain ⟨H_2, q9, h⟩ := h
    refine KR.mk (w := sRow 1 1 [.int .u8 (IntKind.wrap .u8 t30)]) (one_al (by kernel_rfl)) q9 ?_
    obtain ⟨t33a, t33n, t33k, H_3, q10, h⟩ := h
    refine KR.se (one_ap 1 1 (by kernel_rfl) q10) ?_
    exact KR.run 7 [(0, .pointer (some ⟨t0b, t0o, none⟩)), (5, .slice t33a t33n t33k), (25, .int .i64 t25), (26, .int .i64 (IntKind.wrap .i64 (t26 + 1)))] 36 (s' := (.lp (sub B [1, 1, 1, 1, 0, 1, 0, 0]) :: S6)) (by kernel_rfl) h
  · replace h := iteF c7 h
    refine KR.br false (by kernel_rfl) (vB (dF c7)) ?_
    refine KR.run 6 [(4, .slice t5a t5n t5k)] 36 (s' := (.code (sub B [1, 1, 1, 1, 1, 1]) :: [])) (by kernel_rfl) fun J => ?_
    exact KR.fin (by kernel_rfl) h
theorem call {a0 : Option Addr} {a1 : Int} {H : Heap} {r : Value × Heap} (h :
    if a1 ≤ 0 then
    (L0 (a0) (a1) (true) H r)
    else
    (∃ (a0b a0o : Nat), a0 = some ⟨a0b, a0o, none⟩ ∧
    (∃ (t12 : Int), ldc H a0b (a0o + 1) = some (.int .i64 t12) ∧
    (L0 ((some ⟨a0b, a0o, none⟩)) (a1) ((!(t12 == 0))) H r)))) :
    xC Try.prog good 32 [.pointer a0, .int .i64 a1] H = some r := by
  refine KR.enter (fn := Try.f32) (c := B) (by kernel_rfl) (by kernel_rfl) ?_
  refine KR.run 10 [(0, .pointer a0), (1, .int .i64 a1), (8, .bool (decide (a1 ≤ 0)))] 36 (s' := (.reg (opsAt (sub B [1, 0, 0])) [3, 4, 5, 6, 7, 8] :: S1)) (by kernel_rfl) fun J => ?_
  by_cases c1 : a1 ≤ 0
  · replace h := iteT c1 h
    refine KR.setV 8 (by kernel_rfl) (dT c1) ?_
    exact KR.run 7 [(0, .pointer a0), (1, .int .i64 a1), (14, .bool true)] 36 (s' := (.code (sub B [1, 0, 1]) :: S0)) (by kernel_rfl) h
  · replace h := iteF c1 h
    refine KR.setV 8 (by kernel_rfl) (dF c1) ?_
    obtain ⟨a0b, a0o, rfl, h⟩ := h
    refine KR.run 3 [(0, .pointer (some ⟨a0b, a0o, none⟩)), (1, .int .i64 a1), (8, .bool false), (11, .pointer (some ⟨a0b, (a0o + 1), none⟩))] 36 (s' := (.reg (opsAt (sub B [1, 0, 0])) [6, 7, 8] :: S1)) (by kernel_rfl) fun J => ?_
    obtain ⟨t12, q2, h⟩ := h
    refine KR.rd (one_ld (by kernel_rfl) q2) ?_
    exact KR.run 3 [(0, .pointer (some ⟨a0b, a0o, none⟩)), (1, .int .i64 a1), (14, .bool (!(t12 == 0)))] 36 (s' := (.code (sub B [1, 0, 1]) :: S0)) (by kernel_rfl) h
end F32
/-! #### 33 (*campanile/bits.Reader).Even -/
namespace F33
noncomputable def B : Code := bodyOf Try.f33
noncomputable def S0 : List It := (.code (sub B [1]) :: [])
noncomputable def S2 : List It := (.blk 0 :: [])
noncomputable def S1 : List It := (.code (sub B [0, 1]) :: S0)
noncomputable def S3 : List It := (.lp (sub B [1, 0, 0]) :: S2)
noncomputable def S4 : List It := (.code (sub B [1, 0, 0, 1]) :: S3)
noncomputable def S6 : List It := (.blk 1 :: S3)
noncomputable def S5 : List It := (.code (sub B [1, 0, 0, 0, 1]) :: S4)
noncomputable def S7 : List It := (.code (sub B [1, 0, 0, 1, 0, 1]) :: S6)
def L0 (t0 : Option Addr) (H : Heap) (r : Value × Heap) : Prop := ∀ J, KR Try.prog good Try.f33 S3 (mat J 15 [(0, .pointer t0)]) H r
theorem L0_step {t0 : Option Addr} {H : Heap} {r : Value × Heap} (h :
    ∃ (t0b t0o : Nat), t0 = some ⟨t0b, t0o, none⟩ ∧
    (∃ (t7 : Int), ldc H t0b (t0o + 1) = some (.int .i64 t7) ∧
    (if (Int.tmod t7 8) = 0 then
    (r = (.tuple #[], H))
    else
    (∃ (t11 : Int) (H_1 : Heap), xC Try.prog good 53 [.pointer (some ⟨t0b, t0o, none⟩)] H = some (.int .u64 t11, H_1) ∧
    (if t11 = 0 then
    (L0 ((some ⟨t0b, t0o, none⟩)) H_1 r)
    else
    (∃ (H_2 : Heap), xC Try.prog good 66 [.pointer (some ⟨t0b, t0o, none⟩), .int .i64 3] H_1 = some (.tuple #[], H_2) ∧
    (L0 ((some ⟨t0b, t0o, none⟩)) H_2 r))))))) :
    L0 t0 H r := by
  intro J
  show KR _ _ _ (.lp (sub B [1, 0, 0]) :: S2) _ _ _
  obtain ⟨t0b, t0o, rfl, h⟩ := h
  refine KR.run 7 [(0, .pointer (some ⟨t0b, t0o, none⟩)), (6, .pointer (some ⟨t0b, (t0o + 1), none⟩))] 15 (s' := (.reg (opsAt (sub B [1, 0, 0, 0, 0])) [3, 4, 5] :: S5)) (by kernel_rfl) fun J => ?_
  obtain ⟨t7, q3, h⟩ := h
  refine KR.rd (one_ld (by kernel_rfl) q3) ?_
  refine KR.run 3 [(0, .pointer (some ⟨t0b, t0o, none⟩)), (9, .bool (!((Int.tmod t7 8) == 0)))] 15 (s' := (.code (sub B [1, 0, 0, 0, 1]) :: S4)) (by kernel_rfl) fun J => ?_
  by_cases c4 : (Int.tmod t7 8) = 0
  · replace h := iteT c4 h
    refine KR.br false (by kernel_rfl) (vB (nB (eT c4))) ?_
    refine KR.run 1 [] 15 (s' := []) (by kernel_rfl) fun J => ?_
    exact KR.fin0 (by kernel_rfl) h
  · replace h := iteF c4 h
    refine KR.br true (by kernel_rfl) (vB (nB (eF c4))) ?_
    refine KR.run 5 [(0, .pointer (some ⟨t0b, t0o, none⟩)), (10, .pointer (some ⟨t0b, t0o, none⟩))] 15 (s' := (.reg (opsAt (sub B [1, 0, 0, 1, 0, 0])) [1, 2] :: S7)) (by kernel_rfl) fun J => ?_
    obtain ⟨t11, H_1, q5, h⟩ := h
    refine KR.se (one_ca (by kernel_rfl) q5) ?_
    refine KR.run 2 [(0, .pointer (some ⟨t0b, t0o, none⟩)), (12, .bool (!(t11 == 0)))] 15 (s' := (.code (sub B [1, 0, 0, 1, 0, 1]) :: S6)) (by kernel_rfl) fun J => ?_
    by_cases c6 : t11 = 0
    · replace h := iteT c6 h
      refine KR.br false (by kernel_rfl) (vB (nB (eT c6))) ?_
      exact KR.run 2 [(0, .pointer (some ⟨t0b, t0o, none⟩))] 15 (s' := (.lp (sub B [1, 0, 0]) :: S2)) (by kernel_rfl) h
    · replace h := iteF c6 h
      refine KR.br true (by kernel_rfl) (vB (nB (eF c6))) ?_
      refine KR.run 2 [(0, .pointer (some ⟨t0b, t0o, none⟩)), (13, .pointer (some ⟨t0b, t0o, none⟩))] 15 (s' := (.reg (opsAt (sub B [1, 0, 0, 1, 0, 1, 0])) [1] :: S6)) (by kernel_rfl) fun J => ?_
      obtain ⟨H_2, q7, h⟩ := h
      refine KR.se (one_ca (by kernel_rfl) q7) ?_
      exact KR.run 2 [(0, .pointer (some ⟨t0b, t0o, none⟩))] 15 (s' := (.lp (sub B [1, 0, 0]) :: S2)) (by kernel_rfl) h
theorem call {a0 : Option Addr} {H : Heap} {r : Value × Heap} (h :
    if (Option.isNone a0) = true then
    (r = (.tuple #[], H))
    else
    (L0 (a0) H r)) :
    xC Try.prog good 33 [.pointer a0] H = some r := by
  refine KR.enter (fn := Try.f33) (c := B) (by kernel_rfl) (by kernel_rfl) ?_
  refine KR.run 4 [(0, .pointer a0), (2, .pointer a0)] 15 (s' := (.reg (opsAt (sub B [0, 0])) [1] :: S1)) (by kernel_rfl) fun J => ?_
  refine KR.p (one_nl false a0 (by kernel_rfl)) ?_
  refine KR.run 1 [(0, .pointer a0), (3, .bool (Option.isNone a0))] 15 (s' := (.code (sub B [0, 1]) :: S0)) (by kernel_rfl) fun J => ?_
  by_cases c2 : (Option.isNone a0) = true
  · replace h := iteT c2 h
    refine KR.br true (by kernel_rfl) (vB (bT c2)) ?_
    exact KR.fin (by kernel_rfl) h
  · replace h := iteF c2 h
    refine KR.br false (by kernel_rfl) (vB (bF c2)) ?_
    exact KR.run 3 [(0, .pointer a0)] 15 (s' := (.lp (sub B [1, 0, 0]) :: S2)) (by kernel_rfl) h
end F33
/-! #### 34 (*campanile/campanileref1.Row).Over -/
namespace F34
noncomputable def B : Code := bodyOf Try.f34
noncomputable def S0 : List It := (.blk 0 :: [])
noncomputable def S1 : List It := (.lp (sub B [0, 0]) :: S0)
noncomputable def S2 : List It := (.code (sub B [0, 0, 1]) :: S1)
noncomputable def S4 : List It := (.blk 1 :: S1)
noncomputable def S3 : List It := (.code (sub B [0, 0, 0, 1]) :: S2)
noncomputable def S5 : List It := (.code (sub B [0, 0, 1, 0, 1]) :: S4)
noncomputable def S6 : List It := (.code (sub B [0, 0, 1, 0, 1, 0, 1]) :: S4)
def L0 (t0 : Option Addr) (H : Heap) (r : Value × Heap) : Prop := ∀ J, KR Try.prog good Try.f34 S1 (mat J 14 [(0, .pointer t0)]) H r
theorem L0_step {t0 : Option Addr} {H : Heap} {r : Value × Heap} (h :
    ∃ (t0b t0o : Nat), t0 = some ⟨t0b, t0o, none⟩ ∧
    (∃ (t5a : Option Addr) (t5n : Nat) (t5k : Nat), ldc H t0b t0o = some (.slice t5a t5n t5k) ∧
    (if (Int.tmod ((t5n : Nat) : Int) 8) = 0 then
    (r = (.tuple #[], H))
    else
    (∃ (t10 : Int) (H_1 : Heap), xC Try.prog good 35 [.pointer (some ⟨t0b, t0o, none⟩), .int .i64 1] H = some (.int .u64 t10, H_1) ∧
    (if t10 = 0 then
    (L0 ((some ⟨t0b, t0o, none⟩)) H_1 r)
    else
    (∃ (H_2 : Heap), xC Try.prog good 65 [.pointer (some ⟨t0b, t0o, none⟩), .int .i64 3] H_1 = some (.tuple #[], H_2) ∧
    (r = (.tuple #[], H_2)))))))) :
    L0 t0 H r := by
  intro J
  show KR _ _ _ (.lp (sub B [0, 0]) :: S0) _ _ _
  obtain ⟨t0b, t0o, rfl, h⟩ := h
  refine KR.run 7 [(0, .pointer (some ⟨t0b, t0o, none⟩)), (4, .pointer (some ⟨t0b, t0o, none⟩))] 14 (s' := (.reg (opsAt (sub B [0, 0, 0, 0])) [3, 4, 5, 6] :: S3)) (by kernel_rfl) fun J => ?_
  obtain ⟨t5a, t5n, t5k, q1, h⟩ := h
  refine KR.rd (one_ld (by kernel_rfl) q1) ?_
  refine KR.run 4 [(0, .pointer (some ⟨t0b, t0o, none⟩)), (8, .bool (!((Int.tmod ((t5n : Nat) : Int) 8) == 0)))] 14 (s' := (.code (sub B [0, 0, 0, 1]) :: S2)) (by kernel_rfl) fun J => ?_
  by_cases c2 : (Int.tmod ((t5n : Nat) : Int) 8) = 0
  · replace h := iteT c2 h
    refine KR.br false (by kernel_rfl) (vB (nB (eT c2))) ?_
    refine KR.run 1 [] 14 (s' := []) (by kernel_rfl) fun J => ?_
    exact KR.fin0 (by kernel_rfl) h
  · replace h := iteF c2 h
    refine KR.br true (by kernel_rfl) (vB (nB (eF c2))) ?_
    refine KR.run 5 [(0, .pointer (some ⟨t0b, t0o, none⟩)), (9, .pointer (some ⟨t0b, t0o, none⟩))] 14 (s' := (.reg (opsAt (sub B [0, 0, 1, 0, 0])) [1, 2] :: S5)) (by kernel_rfl) fun J => ?_
    obtain ⟨t10, H_1, q3, h⟩ := h
    refine KR.se (one_ca (by kernel_rfl) q3) ?_
    refine KR.run 2 [(0, .pointer (some ⟨t0b, t0o, none⟩)), (11, .bool (!(t10 == 0)))] 14 (s' := (.code (sub B [0, 0, 1, 0, 1]) :: S4)) (by kernel_rfl) fun J => ?_
    by_cases c4 : t10 = 0
    · replace h := iteT c4 h
      refine KR.br false (by kernel_rfl) (vB (nB (eT c4))) ?_
      exact KR.run 2 [(0, .pointer (some ⟨t0b, t0o, none⟩))] 14 (s' := (.lp (sub B [0, 0]) :: S0)) (by kernel_rfl) h
    · replace h := iteF c4 h
      refine KR.br true (by kernel_rfl) (vB (nB (eF c4))) ?_
      refine KR.run 3 [(12, .pointer (some ⟨t0b, t0o, none⟩))] 14 (s' := (.reg (opsAt (sub B [0, 0, 1, 0, 1, 0, 0])) [1] :: S6)) (by kernel_rfl) fun J => ?_
      obtain ⟨H_2, q5, h⟩ := h
      refine KR.se (one_ca (by kernel_rfl) q5) ?_
      refine KR.run 1 [] 14 (s' := (.code (sub B [0, 0, 1, 0, 1, 0, 1]) :: S4)) (by kernel_rfl) fun J => ?_
      exact KR.fin (by kernel_rfl) h
theorem call {a0 : Option Addr} {H : Heap} {r : Value × Heap} (h :
    L0 (a0) H r) :
    xC Try.prog good 34 [.pointer a0] H = some r := by
  refine KR.enter (fn := Try.f34) (c := B) (by kernel_rfl) (by kernel_rfl) ?_
  exact KR.run 2 [(0, .pointer a0)] 14 (s' := (.lp (sub B [0, 0]) :: S0)) (by kernel_rfl) h
end F34
/-! #### 35 (*campanile/campanileref1.Row).Take -/
namespace F35
noncomputable def B : Code := bodyOf Try.f35
noncomputable def S0 : List It := (.code (sub B [1, 1]) :: [])
noncomputable def S2 : List It := (.code (sub B [1, 1, 1]) :: [])
noncomputable def S5 : List It := (.code (sub B [1, 1, 1, 1, 1]) :: [])
noncomputable def S13 : List It := (.code (sub B [1, 1, 1, 1, 1, 1]) :: [])
noncomputable def S1 : List It := (.code (sub B [1, 0, 1]) :: S0)
noncomputable def S3 : List It := (.code (sub B [1, 1, 0, 1]) :: S2)
noncomputable def S4 : List It := (.code (sub B [1, 1, 0, 1, 0, 1]) :: S2)
noncomputable def S6 : List It := (.code (sub B [1, 1, 1, 1, 0, 1]) :: S5)
noncomputable def S7 : List It := (.blk 0 :: S5)
noncomputable def S8 : List It := (.lp (sub B [1, 1, 1, 1, 0, 1, 0, 0]) :: S7)
noncomputable def S9 : List It := (.code (sub B [1, 1, 1, 1, 0, 1, 0, 0, 1, 1]) :: S8)
noncomputable def S10 : List It := (.code (sub B [1, 1, 1, 1, 0, 1, 0, 0, 1, 1, 1]) :: S8)
noncomputable def S11 : List It := (.blk 1 :: S10)
noncomputable def S12 : List It := (.code (sub B [1, 1, 1, 1, 0, 1, 0, 0, 1, 1, 0, 0, 1]) :: S11)
def L0 (t0 : Option Addr) (t1 : Int) (t20 : Bool) (H : Heap) (r : Value × Heap) : Prop := ∀ J, KR Try.prog good Try.f35 S1 (mat J 57 [(0, .pointer t0), (1, .int .i64 t1), (20, .bool t20)]) H r
def L1 (t0b : Nat) (t0o : Nat) (t1 : Int) (t5 : Int) (t35a : Option Addr) (t35n : Nat) (t35k : Nat) (t36 : Int) (t37 : Int) (H : Heap) (r : Value × Heap) : Prop := ∀ J, KR Try.prog good Try.f35 S8 (mat J 57 [(0, .pointer (some ⟨t0b, t0o, none⟩)), (1, .int .i64 t1), (5, .int .u64 t5), (35, .slice t35a t35n t35k), (36, .int .i64 t36), (37, .int .i64 t37)]) H r
theorem L0_step {t0 : Option Addr} {t1 : Int} {t20 : Bool} {H : Heap} {r : Value × Heap} (h :
    if t20 = true then
    (r = (.int .u64 0, H))
    else
    (∃ (t0b t0o : Nat), t0 = some ⟨t0b, t0o, none⟩ ∧
    (∃ (t25a : Option Addr) (t25n : Nat) (t25k : Nat), ldc H t0b t0o = some (.slice t25a t25n t25k) ∧
    (if t1 > ((t25n : Nat) : Int) then
    (∃ (H_1 : Heap), xC Try.prog good 65 [.pointer (some ⟨t0b, t0o, none⟩), .int .i64 2] H = some (.tuple #[], H_1) ∧
    (r = (.int .u64 0, H_1)))
    else
    (∃ (t33a : Option Addr) (t33n : Nat) (t33k : Nat), ldc H t0b t0o = some (.slice t33a t33n t33k) ∧
    (∃ (t35a : Option Addr) (t35n : Nat) (t35k : Nat), psl 1 t33a t33n t33k none (some t1) none = some (t35a, t35n, t35k) ∧
    (L1 (t0b) (t0o) (t1) 0 (t35a) (t35n) (t35k) (((t35n : Nat) : Int)) 0 H r))))))) :
    L0 t0 t1 t20 H r := by
  intro J
  show KR _ _ _ (.code (sub B [1, 0, 1]) :: S0) _ _ _
  by_cases c4 : t20 = true
  · replace h := iteT c4 h
    refine KR.br true (by kernel_rfl) (vB (bT c4)) ?_
    refine KR.run 4 [(4, .int .u64 0)] 57 (s' := (.code (sub B [1, 0, 1, 0, 1]) :: S0)) (by kernel_rfl) fun J => ?_
    exact KR.fin (by kernel_rfl) h
  · replace h := iteF c4 h
    refine KR.br false (by kernel_rfl) (vB (bF c4)) ?_
    obtain ⟨t0b, t0o, rfl, h⟩ := h
    refine KR.run 8 [(0, .pointer (some ⟨t0b, t0o, none⟩)), (1, .int .i64 t1), (21, .int .i64 t1), (24, .pointer (some ⟨t0b, t0o, none⟩))] 57 (s' := (.reg (opsAt (sub B [1, 1, 0, 0])) [4, 5, 6] :: S3)) (by kernel_rfl) fun J => ?_
    obtain ⟨t25a, t25n, t25k, q5, h⟩ := h
    refine KR.rd (one_ld (by kernel_rfl) q5) ?_
    refine KR.run 3 [(0, .pointer (some ⟨t0b, t0o, none⟩)), (1, .int .i64 t1), (27, .bool (decide (t1 > ((t25n : Nat) : Int))))] 57 (s' := (.code (sub B [1, 1, 0, 1]) :: S2)) (by kernel_rfl) fun J => ?_
    by_cases c6 : t1 > ((t25n : Nat) : Int)
    · replace h := iteT c6 h
      refine KR.br true (by kernel_rfl) (vB (dT c6)) ?_
      refine KR.run 3 [(28, .pointer (some ⟨t0b, t0o, none⟩))] 57 (s' := (.reg (opsAt (sub B [1, 1, 0, 1, 0, 0])) [1] :: S4)) (by kernel_rfl) fun J => ?_
      obtain ⟨H_1, q7, h⟩ := h
      refine KR.se (one_ca (by kernel_rfl) q7) ?_
      refine KR.run 5 [(4, .int .u64 0)] 57 (s' := (.code (sub B [1, 1, 0, 1, 0, 1, 1]) :: S2)) (by kernel_rfl) fun J => ?_
      exact KR.fin (by kernel_rfl) h
    · replace h := iteF c6 h
      refine KR.br false (by kernel_rfl) (vB (dF c6)) ?_
      refine KR.run 11 [(0, .pointer (some ⟨t0b, t0o, none⟩)), (1, .int .i64 t1), (5, .int .u64 0), (32, .pointer (some ⟨t0b, t0o, none⟩))] 57 (s' := (.reg (opsAt (sub B [1, 1, 1, 1, 0, 0])) [3, 4, 5, 6, 7] :: S6)) (by kernel_rfl) fun J => ?_
      obtain ⟨t33a, t33n, t33k, q8, h⟩ := h
      refine KR.rd (one_ld (by kernel_rfl) q8) ?_
      refine KR.run 1 [(0, .pointer (some ⟨t0b, t0o, none⟩)), (1, .int .i64 t1), (5, .int .u64 0), (33, .slice t33a t33n t33k), (34, .int .i64 t1)] 57 (s' := (.reg (opsAt (sub B [1, 1, 1, 1, 0, 0])) [5, 6, 7] :: S6)) (by kernel_rfl) fun J => ?_
      obtain ⟨t35a, t35n, t35k, q9, h⟩ := h
      refine KR.p (one_sl (by kernel_rfl) q9) ?_
      exact KR.run 5 [(0, .pointer (some ⟨t0b, t0o, none⟩)), (1, .int .i64 t1), (5, .int .u64 0), (35, .slice t35a t35n t35k), (36, .int .i64 ((t35n : Nat) : Int)), (37, .int .i64 0)] 57 (s' := (.lp (sub B [1, 1, 1, 1, 0, 1, 0, 0]) :: S7)) (by kernel_rfl) h
theorem L1_step {t0b : Nat} {t0o : Nat} {t1 : Int} {t5 : Int} {t35a : Option Addr} {t35n : Nat} {t35k : Nat} {t36 : Int} {t37 : Int} {H : Heap} {r : Value × Heap} (h :
    if t37 < t36 then
    (∃ (t35ab t35ao : Nat), t35a = some ⟨t35ab, t35ao, none⟩ ∧
    ((0 : Int) ≤ t37 ∧ t37 < ((t35n : Nat) : Int) ∧
    (∃ (t40 : Int), ldc H t35ab (t35ao + Int.toNat t37 * 1) = some (.int .u8 t40) ∧
    (L1 (t0b) (t0o) (t1) ((ior .u64 (ishl .u64 t5 1) (IntKind.wrap .u64 t40))) ((some ⟨t35ab, t35ao, none⟩)) (t35n) (t35k) (t36) ((IntKind.wrap .i64 (t37 + 1))) H r))))
    else
    (∃ (t51a : Option Addr) (t51n : Nat) (t51k : Nat), ldc H t0b t0o = some (.slice t51a t51n t51k) ∧
    (∃ (t53a : Option Addr) (t53n : Nat) (t53k : Nat), psl 1 t51a t51n t51k (some t1) none none = some (t53a, t53n, t53k) ∧
    (∃ (H_1 : Heap), stc H t0b t0o [.slice t53a t53n t53k] = some H_1 ∧
    (r = (.int .u64 t5, H_1)))))) :
    L1 t0b t0o t1 t5 t35a t35n t35k t36 t37 H r := by
  intro J
  show KR _ _ _ (.lp (sub B [1, 1, 1, 1, 0, 1, 0, 0]) :: S7) _ _ _
  refine KR.run 6 [(0, .pointer (some ⟨t0b, t0o, none⟩)), (1, .int .i64 t1), (5, .int .u64 t5), (35, .slice t35a t35n t35k), (36, .int .i64 t36), (37, .int .i64 t37), (38, .bool (decide (t37 < t36)))] 57 (s' := (.code (sub B [1, 1, 1, 1, 0, 1, 0, 0, 1, 0]) :: S9)) (by kernel_rfl) fun J => ?_
  by_cases c10 : t37 < t36
  · replace h := iteT c10 h
    refine KR.br true (by kernel_rfl) (vB (dT c10)) ?_
    obtain ⟨t35ab, t35ao, rfl, h⟩ := h
    refine KR.run 5 [(0, .pointer (some ⟨t0b, t0o, none⟩)), (1, .int .i64 t1), (5, .int .u64 t5), (35, .slice (some ⟨t35ab, t35ao, none⟩) t35n t35k), (36, .int .i64 t36), (37, .int .i64 t37)] 57 (s' := (.reg (opsAt (sub B [1, 1, 1, 1, 0, 1, 0, 0, 1, 1, 0, 0, 0])) [0, 1, 2] :: S12)) (by kernel_rfl) fun J => ?_
    obtain ⟨q11, q11x, h⟩ := h
    refine KR.p (one_ix 1 t35ab t35ao (by kernel_rfl) q11 q11x) ?_
    obtain ⟨t40, q12, h⟩ := h
    refine KR.rd (one_ld (by kernel_rfl) q12) ?_
    exact KR.run 15 [(0, .pointer (some ⟨t0b, t0o, none⟩)), (1, .int .i64 t1), (5, .int .u64 (ior .u64 (ishl .u64 t5 1) (IntKind.wrap .u64 t40))), (35, .slice (some ⟨t35ab, t35ao, none⟩) t35n t35k), (36, .int .i64 t36), (37, .int .i64 (IntKind.wrap .i64 (t37 + 1)))] 57 (s' := (.lp (sub B [1, 1, 1, 1, 0, 1, 0, 0]) :: S7)) (by kernel_rfl) h
  · replace h := iteF c10 h
    refine KR.br false (by kernel_rfl) (vB (dF c10)) ?_
    refine KR.run 7 [(1, .int .i64 t1), (5, .int .u64 t5), (47, .pointer (some ⟨t0b, t0o, none⟩)), (50, .pointer (some ⟨t0b, t0o, none⟩))] 57 (s' := (.reg (opsAt (sub B [1, 1, 1, 1, 1, 0])) [4, 5, 6, 7, 8, 9] :: S13)) (by kernel_rfl) fun J => ?_
    obtain ⟨t51a, t51n, t51k, q13, h⟩ := h
    refine KR.rd (one_ld (by kernel_rfl) q13) ?_
    refine KR.run 1 [(5, .int .u64 t5), (47, .pointer (some ⟨t0b, t0o, none⟩)), (51, .slice t51a t51n t51k), (52, .int .i64 t1)] 57 (s' := (.reg (opsAt (sub B [1, 1, 1, 1, 1, 0])) [6, 7, 8, 9] :: S13)) (by kernel_rfl) fun J => ?_
    obtain ⟨t53a, t53n, t53k, q14, h⟩ := h
    refine KR.p (one_sl (by kernel_rfl) q14) ?_
    refine KR.run 2 [(5, .int .u64 t5), (53, .slice t53a t53n t53k), (55, .pointer (some ⟨t0b, t0o, none⟩))] 57 (s' := (.reg (opsAt (sub B [1, 1, 1, 1, 1, 0])) [9] :: S13)) (by kernel_rfl) fun J => ?_
    obtain ⟨H_1, q15, h⟩ := h
    refine KR.se (one_st (by kernel_rfl) q15) ?_
    refine KR.run 6 [(4, .int .u64 t5)] 57 (s' := (.code (sub B [1, 1, 1, 1, 1, 1, 1]) :: [])) (by kernel_rfl) fun J => ?_
    exact KR.fin (by kernel_rfl) h
theorem call {a0 : Option Addr} {a1 : Int} {H : Heap} {r : Value × Heap} (h :
    if a1 < 0 then
    (L0 (a0) (a1) (true) H r)
    else
    (if a1 > 64 then
    (L0 (a0) (a1) (true) H r)
    else
    (∃ (a0b a0o : Nat), a0 = some ⟨a0b, a0o, none⟩ ∧
    (∃ (t18 : Int), ldc H a0b (a0o + 1) = some (.int .i64 t18) ∧
    (L0 ((some ⟨a0b, a0o, none⟩)) (a1) ((!(t18 == 0))) H r))))) :
    xC Try.prog good 35 [.pointer a0, .int .i64 a1] H = some r := by
  refine KR.enter (fn := Try.f35) (c := B) (by kernel_rfl) (by kernel_rfl) ?_
  refine KR.run 10 [(0, .pointer a0), (1, .int .i64 a1), (10, .bool (decide (a1 < 0)))] 57 (s' := (.reg (opsAt (sub B [1, 0, 0])) [3, 4, 5, 6, 7, 8, 9, 10, 11, 12] :: S1)) (by kernel_rfl) fun J => ?_
  by_cases c1 : a1 < 0
  · replace h := iteT c1 h
    refine KR.setV 10 (by kernel_rfl) (dT c1) ?_
    exact KR.run 11 [(0, .pointer a0), (1, .int .i64 a1), (20, .bool true)] 57 (s' := (.code (sub B [1, 0, 1]) :: S0)) (by kernel_rfl) h
  · replace h := iteF c1 h
    refine KR.setV 10 (by kernel_rfl) (dF c1) ?_
    refine KR.run 4 [(0, .pointer a0), (1, .int .i64 a1), (14, .bool (decide (a1 > 64)))] 57 (s' := (.reg (opsAt (sub B [1, 0, 0])) [7, 8, 9, 10, 11, 12] :: S1)) (by kernel_rfl) fun J => ?_
    by_cases c2 : a1 > 64
    · replace h := iteT c2 h
      refine KR.setV 14 (by kernel_rfl) (dT c2) ?_
      exact KR.run 7 [(0, .pointer a0), (1, .int .i64 a1), (20, .bool true)] 57 (s' := (.code (sub B [1, 0, 1]) :: S0)) (by kernel_rfl) h
    · replace h := iteF c2 h
      refine KR.setV 14 (by kernel_rfl) (dF c2) ?_
      obtain ⟨a0b, a0o, rfl, h⟩ := h
      refine KR.run 3 [(0, .pointer (some ⟨a0b, a0o, none⟩)), (1, .int .i64 a1), (14, .bool false), (17, .pointer (some ⟨a0b, (a0o + 1), none⟩))] 57 (s' := (.reg (opsAt (sub B [1, 0, 0])) [10, 11, 12] :: S1)) (by kernel_rfl) fun J => ?_
      obtain ⟨t18, q3, h⟩ := h
      refine KR.rd (one_ld (by kernel_rfl) q3) ?_
      exact KR.run 3 [(0, .pointer (some ⟨a0b, a0o, none⟩)), (1, .int .i64 a1), (20, .bool (!(t18 == 0)))] 57 (s' := (.code (sub B [1, 0, 1]) :: S0)) (by kernel_rfl) h
end F35
/-! #### 36 (*campanile/bits.Reader).Left -/
namespace F36
noncomputable def B : Code := bodyOf Try.f36
noncomputable def S0 : List It := (.code (sub B [1, 1]) :: [])
noncomputable def S2 : List It := (.code (sub B [1, 1, 1]) :: [])
noncomputable def S1 : List It := (.code (sub B [1, 0, 1]) :: S0)
theorem call {a0 : Option Addr} {H : Heap} {r : Value × Heap} (h :
    if (Option.isNone a0) = true then
    (r = (.int .i64 0, H))
    else
    (∃ (a0b a0o : Nat), a0 = some ⟨a0b, a0o, none⟩ ∧
    (∃ (t8a : Option Addr) (t8n : Nat) (t8k : Nat), ldc H a0b a0o = some (.slice t8a t8n t8k) ∧
    (∃ (t14 : Int), ldc H a0b (a0o + 1) = some (.int .i64 t14) ∧
    (r = (.int .i64 (IntKind.wrap .i64 ((IntKind.wrap .i64 (8 * ((t8n : Nat) : Int))) - t14)), H)))))) :
    xC Try.prog good 36 [.pointer a0] H = some r := by
  refine KR.enter (fn := Try.f36) (c := B) (by kernel_rfl) (by kernel_rfl) ?_
  refine KR.run 8 [(0, .pointer a0), (3, .pointer a0)] 16 (s' := (.reg (opsAt (sub B [1, 0, 0])) [1] :: S1)) (by kernel_rfl) fun J => ?_
  refine KR.p (one_nl false a0 (by kernel_rfl)) ?_
  refine KR.run 1 [(0, .pointer a0), (4, .bool (Option.isNone a0))] 16 (s' := (.code (sub B [1, 0, 1]) :: S0)) (by kernel_rfl) fun J => ?_
  by_cases c2 : (Option.isNone a0) = true
  · replace h := iteT c2 h
    refine KR.br true (by kernel_rfl) (vB (bT c2)) ?_
    refine KR.run 4 [(2, .int .i64 0)] 16 (s' := (.code (sub B [1, 0, 1, 0, 1]) :: S0)) (by kernel_rfl) fun J => ?_
    exact KR.fin (by kernel_rfl) h
  · replace h := iteF c2 h
    refine KR.br false (by kernel_rfl) (vB (bF c2)) ?_
    refine KR.run 2 [(0, .pointer a0)] 16 (s' := (.code (sub B [1, 1, 0]) :: S2)) (by kernel_rfl) fun J => ?_
    refine KR.sd (by kernel_rfl) ?_
    obtain ⟨a0b, a0o, rfl, h⟩ := h
    refine KR.run 3 [(0, .pointer (some ⟨a0b, a0o, none⟩)), (7, .pointer (some ⟨a0b, a0o, none⟩))] 16 (s' := (.reg (opsAt (sub B [1, 1, 0])) [3, 4, 5, 6, 7, 8, 9, 10, 11] :: S2)) (by kernel_rfl) fun J => ?_
    obtain ⟨t8a, t8n, t8k, q3, h⟩ := h
    refine KR.rd (one_ld (by kernel_rfl) q3) ?_
    refine KR.run 5 [(10, .int .i64 (IntKind.wrap .i64 (8 * ((t8n : Nat) : Int)))), (13, .pointer (some ⟨a0b, (a0o + 1), none⟩))] 16 (s' := (.reg (opsAt (sub B [1, 1, 0])) [9, 10, 11] :: S2)) (by kernel_rfl) fun J => ?_
    obtain ⟨t14, q4, h⟩ := h
    refine KR.rd (one_ld (by kernel_rfl) q4) ?_
    refine KR.run 3 [(2, .int .i64 (IntKind.wrap .i64 ((IntKind.wrap .i64 (8 * ((t8n : Nat) : Int))) - t14)))] 16 (s' := (.code (sub B [1, 1, 1]) :: [])) (by kernel_rfl) fun J => ?_
    exact KR.fin (by kernel_rfl) h
end F36
/-! #### 37 (*campanile/bits.Reader).End -/
namespace F37
noncomputable def B : Code := bodyOf Try.f37
noncomputable def S0 : List It := (.code (sub B [1, 1]) :: [])
noncomputable def S4 : List It := (.code (sub B [1, 1, 1]) :: [])
noncomputable def S1 : List It := (.blk 0 :: S0)
noncomputable def S2 : List It := (.code (sub B [1, 0, 0, 1]) :: S1)
noncomputable def S3 : List It := (.code (sub B [1, 0, 0, 1, 1, 1]) :: S1)
def L0 (t0b : Nat) (t0o : Nat) (t6 : Bool) (H : Heap) (r : Value × Heap) : Prop := ∀ J, KR Try.prog good Try.f37 S3 (mat J 21 [(0, .pointer (some ⟨t0b, t0o, none⟩)), (6, .bool t6)]) H r
theorem L0_step {t0b : Nat} {t0o : Nat} {t6 : Bool} {H : Heap} {r : Value × Heap} (h :
    if t6 = true then
    (r = (.int .i64 3, H))
    else
    (∃ (t20 : Int), ldc H t0b (t0o + 2) = some (.int .i64 t20) ∧
    (r = (.int .i64 t20, H)))) :
    L0 t0b t0o t6 H r := by
  intro J
  show KR _ _ _ (.code (sub B [1, 0, 0, 1, 1, 1]) :: S1) _ _ _
  by_cases c6 : t6 = true
  · replace h := iteT c6 h
    refine KR.br true (by kernel_rfl) (vB (bT c6)) ?_
    refine KR.run 4 [(2, .int .i64 3)] 21 (s' := (.code (sub B [1, 0, 0, 1, 1, 1, 0, 1]) :: S1)) (by kernel_rfl) fun J => ?_
    exact KR.fin (by kernel_rfl) h
  · replace h := iteF c6 h
    refine KR.br false (by kernel_rfl) (vB (bF c6)) ?_
    refine KR.run 7 [(19, .pointer (some ⟨t0b, (t0o + 2), none⟩))] 21 (s' := (.reg (opsAt (sub B [1, 1, 0])) [3, 4] :: S4)) (by kernel_rfl) fun J => ?_
    obtain ⟨t20, q7, h⟩ := h
    refine KR.rd (one_ld (by kernel_rfl) q7) ?_
    refine KR.run 2 [(2, .int .i64 t20)] 21 (s' := (.code (sub B [1, 1, 1]) :: [])) (by kernel_rfl) fun J => ?_
    exact KR.fin (by kernel_rfl) h
theorem call {a0 : Option Addr} {H : Heap} {r : Value × Heap} (h :
    if (Option.isNone a0) = true then
    (r = (.int .i64 1, H))
    else
    (∃ (a0b a0o : Nat), a0 = some ⟨a0b, a0o, none⟩ ∧
    (∃ (t10 : Int), ldc H a0b (a0o + 2) = some (.int .i64 t10) ∧
    (if t10 = 0 then
    (∃ (t14 : Int) (H_1 : Heap), xC Try.prog good 36 [.pointer (some ⟨a0b, a0o, none⟩)] H = some (.int .i64 t14, H_1) ∧
    (L0 (a0b) (a0o) ((decide (t14 > 0))) H_1 r))
    else
    (L0 (a0b) (a0o) (false) H r))))) :
    xC Try.prog good 37 [.pointer a0] H = some r := by
  refine KR.enter (fn := Try.f37) (c := B) (by kernel_rfl) (by kernel_rfl) ?_
  refine KR.run 9 [(0, .pointer a0), (4, .pointer a0)] 21 (s' := (.reg (opsAt (sub B [1, 0, 0, 0])) [1, 2] :: S2)) (by kernel_rfl) fun J => ?_
  refine KR.p (one_nl false a0 (by kernel_rfl)) ?_
  refine KR.run 2 [(0, .pointer a0), (3, .bool (Option.isNone a0))] 21 (s' := (.code (sub B [1, 0, 0, 1]) :: S1)) (by kernel_rfl) fun J => ?_
  by_cases c2 : (Option.isNone a0) = true
  · replace h := iteT c2 h
    refine KR.br true (by kernel_rfl) (vB (bT c2)) ?_
    refine KR.run 4 [(2, .int .i64 1)] 21 (s' := (.code (sub B [1, 0, 0, 1, 0, 1]) :: S1)) (by kernel_rfl) fun J => ?_
    exact KR.fin (by kernel_rfl) h
  · replace h := iteF c2 h
    refine KR.br false (by kernel_rfl) (vB (bF c2)) ?_
    obtain ⟨a0b, a0o, rfl, h⟩ := h
    refine KR.run 5 [(0, .pointer (some ⟨a0b, a0o, none⟩)), (9, .pointer (some ⟨a0b, (a0o + 2), none⟩))] 21 (s' := (.reg (opsAt (sub B [1, 0, 0, 1, 1, 0])) [3, 4, 5, 6, 7, 8, 9, 10] :: S3)) (by kernel_rfl) fun J => ?_
    obtain ⟨t10, q3, h⟩ := h
    refine KR.rd (one_ld (by kernel_rfl) q3) ?_
    refine KR.run 2 [(0, .pointer (some ⟨a0b, a0o, none⟩)), (12, .bool (t10 == 0))] 21 (s' := (.reg (opsAt (sub B [1, 0, 0, 1, 1, 0])) [6, 7, 8, 9, 10] :: S3)) (by kernel_rfl) fun J => ?_
    by_cases c4 : t10 = 0
    · replace h := iteT c4 h
      refine KR.setV 12 (by kernel_rfl) (eT c4) ?_
      refine KR.run 1 [(0, .pointer (some ⟨a0b, a0o, none⟩)), (12, .bool true), (13, .pointer (some ⟨a0b, a0o, none⟩))] 21 (s' := (.reg (opsAt (sub B [1, 0, 0, 1, 1, 0])) [7, 8, 9, 10] :: S3)) (by kernel_rfl) fun J => ?_
      obtain ⟨t14, H_1, q5, h⟩ := h
      refine KR.se (one_ca (by kernel_rfl) q5) ?_
      exact KR.run 4 [(0, .pointer (some ⟨a0b, a0o, none⟩)), (6, .bool (decide (t14 > 0)))] 21 (s' := (.code (sub B [1, 0, 0, 1, 1, 1]) :: S1)) (by kernel_rfl) h
    · replace h := iteF c4 h
      refine KR.setV 12 (by kernel_rfl) (eF c4) ?_
      exact KR.run 6 [(0, .pointer (some ⟨a0b, a0o, none⟩)), (6, .bool false)] 21 (s' := (.code (sub B [1, 0, 0, 1, 1, 1]) :: S1)) (by kernel_rfl) h
end F37
/-! #### 38 (*campanile/campanileref1.Row).Ends -/
namespace F38
noncomputable def B : Code := bodyOf Try.f38
noncomputable def S0 : List It := (.code (sub B [1, 1]) :: [])
noncomputable def S2 : List It := (.code (sub B [1, 1, 1]) :: [])
noncomputable def S1 : List It := (.code (sub B [1, 0, 1]) :: S0)
def L0 (t0b : Nat) (t0o : Nat) (t15 : Bool) (H : Heap) (r : Value × Heap) : Prop := ∀ J, KR Try.prog good Try.f38 S1 (mat J 20 [(0, .pointer (some ⟨t0b, t0o, none⟩)), (15, .bool t15)]) H r
theorem L0_step {t0b : Nat} {t0o : Nat} {t15 : Bool} {H : Heap} {r : Value × Heap} (h :
    if t15 = true then
    (r = (.int .i64 3, H))
    else
    (∃ (t19 : Int), ldc H t0b (t0o + 1) = some (.int .i64 t19) ∧
    (r = (.int .i64 t19, H)))) :
    L0 t0b t0o t15 H r := by
  intro J
  show KR _ _ _ (.code (sub B [1, 0, 1]) :: S0) _ _ _
  by_cases c4 : t15 = true
  · replace h := iteT c4 h
    refine KR.br true (by kernel_rfl) (vB (bT c4)) ?_
    refine KR.run 4 [(2, .int .i64 3)] 20 (s' := (.code (sub B [1, 0, 1, 0, 1]) :: S0)) (by kernel_rfl) fun J => ?_
    exact KR.fin (by kernel_rfl) h
  · replace h := iteF c4 h
    refine KR.br false (by kernel_rfl) (vB (bF c4)) ?_
    refine KR.run 6 [(18, .pointer (some ⟨t0b, (t0o + 1), none⟩))] 20 (s' := (.reg (opsAt (sub B [1, 1, 0])) [3, 4] :: S2)) (by kernel_rfl) fun J => ?_
    obtain ⟨t19, q5, h⟩ := h
    refine KR.rd (one_ld (by kernel_rfl) q5) ?_
    refine KR.run 2 [(2, .int .i64 t19)] 20 (s' := (.code (sub B [1, 1, 1]) :: [])) (by kernel_rfl) fun J => ?_
    exact KR.fin (by kernel_rfl) h
theorem call {a0 : Option Addr} {H : Heap} {r : Value × Heap} (h :
    ∃ (a0b a0o : Nat), a0 = some ⟨a0b, a0o, none⟩ ∧
    (∃ (t6 : Int), ldc H a0b (a0o + 1) = some (.int .i64 t6) ∧
    (if t6 = 0 then
    (∃ (t12a : Option Addr) (t12n : Nat) (t12k : Nat), ldc H a0b a0o = some (.slice t12a t12n t12k) ∧
    (L0 (a0b) (a0o) ((decide (((t12n : Nat) : Int) > 0))) H r))
    else
    (L0 (a0b) (a0o) (false) H r)))) :
    xC Try.prog good 38 [.pointer a0] H = some r := by
  refine KR.enter (fn := Try.f38) (c := B) (by kernel_rfl) (by kernel_rfl) ?_
  obtain ⟨a0b, a0o, rfl, h⟩ := h
  refine KR.run 10 [(0, .pointer (some ⟨a0b, a0o, none⟩)), (5, .pointer (some ⟨a0b, (a0o + 1), none⟩))] 20 (s' := (.reg (opsAt (sub B [1, 0, 0])) [3, 4, 5, 6, 7, 8, 9, 10, 11, 12] :: S1)) (by kernel_rfl) fun J => ?_
  obtain ⟨t6, q1, h⟩ := h
  refine KR.rd (one_ld (by kernel_rfl) q1) ?_
  refine KR.run 2 [(0, .pointer (some ⟨a0b, a0o, none⟩)), (8, .bool (t6 == 0))] 20 (s' := (.reg (opsAt (sub B [1, 0, 0])) [6, 7, 8, 9, 10, 11, 12] :: S1)) (by kernel_rfl) fun J => ?_
  by_cases c2 : t6 = 0
  · replace h := iteT c2 h
    refine KR.setV 8 (by kernel_rfl) (eT c2) ?_
    refine KR.run 3 [(0, .pointer (some ⟨a0b, a0o, none⟩)), (8, .bool true), (11, .pointer (some ⟨a0b, a0o, none⟩))] 20 (s' := (.reg (opsAt (sub B [1, 0, 0])) [9, 10, 11, 12] :: S1)) (by kernel_rfl) fun J => ?_
    obtain ⟨t12a, t12n, t12k, q3, h⟩ := h
    refine KR.rd (one_ld (by kernel_rfl) q3) ?_
    exact KR.run 4 [(0, .pointer (some ⟨a0b, a0o, none⟩)), (15, .bool (decide (((t12n : Nat) : Int) > 0)))] 20 (s' := (.code (sub B [1, 0, 1]) :: S0)) (by kernel_rfl) h
  · replace h := iteF c2 h
    refine KR.setV 8 (by kernel_rfl) (eF c2) ?_
    exact KR.run 8 [(0, .pointer (some ⟨a0b, a0o, none⟩)), (15, .bool false)] 20 (s' := (.code (sub B [1, 0, 1]) :: S0)) (by kernel_rfl) h
end F38
/-! #### 39 (*campanile/bits.Writer).Text -/
namespace F39
noncomputable def B : Code := bodyOf Try.f39
noncomputable def S0 : List It := (.blk 0 :: [])
noncomputable def S1 : List It := (.lp (sub B [1, 0, 0]) :: S0)
noncomputable def S2 : List It := (.code (sub B [1, 0, 0, 1, 1]) :: S1)
noncomputable def S3 : List It := (.code (sub B [1, 0, 0, 1, 1, 1]) :: S1)
noncomputable def S4 : List It := (.blk 1 :: S3)
noncomputable def S5 : List It := (.code (sub B [1, 0, 0, 1, 1, 0, 0, 1]) :: S4)
def L0 (t0 : Option Addr) (t6a : Option Addr) (t6n : Nat) (t6k : Nat) (t7 : Int) (t8 : Int) (H : Heap) (r : Value × Heap) : Prop := ∀ J, KR Try.prog good Try.f39 S1 (mat J 17 [(0, .pointer t0), (6, .slice t6a t6n t6k), (7, .int .i64 t7), (8, .int .i64 t8)]) H r
theorem L0_step {t0 : Option Addr} {t6a : Option Addr} {t6n : Nat} {t6k : Nat} {t7 : Int} {t8 : Int} {H : Heap} {r : Value × Heap} (h :
    if t8 < t7 then
    (∃ (t6ab t6ao : Nat), t6a = some ⟨t6ab, t6ao, none⟩ ∧
    ((0 : Int) ≤ t8 ∧ t8 < ((t6n : Nat) : Int) ∧
    (∃ (t11 : Int), ldc H t6ab (t6ao + Int.toNat t8 * 1) = some (.int .u8 t11) ∧
    (∃ (H_1 : Heap), xC Try.prog good 14 [.pointer t0, .int .u64 (IntKind.wrap .u64 t11), .int .i64 8] H = some (.tuple #[], H_1) ∧
    (L0 (t0) ((some ⟨t6ab, t6ao, none⟩)) (t6n) (t6k) (t7) ((IntKind.wrap .i64 (t8 + 1))) H_1 r)))))
    else
    (r = (.tuple #[], H))) :
    L0 t0 t6a t6n t6k t7 t8 H r := by
  intro J
  show KR _ _ _ (.lp (sub B [1, 0, 0]) :: S0) _ _ _
  refine KR.run 6 [(0, .pointer t0), (6, .slice t6a t6n t6k), (7, .int .i64 t7), (8, .int .i64 t8), (9, .bool (decide (t8 < t7)))] 17 (s' := (.code (sub B [1, 0, 0, 1, 0]) :: S2)) (by kernel_rfl) fun J => ?_
  by_cases c1 : t8 < t7
  · replace h := iteT c1 h
    refine KR.br true (by kernel_rfl) (vB (dT c1)) ?_
    obtain ⟨t6ab, t6ao, rfl, h⟩ := h
    refine KR.run 5 [(0, .pointer t0), (6, .slice (some ⟨t6ab, t6ao, none⟩) t6n t6k), (7, .int .i64 t7), (8, .int .i64 t8)] 17 (s' := (.reg (opsAt (sub B [1, 0, 0, 1, 1, 0, 0, 0])) [0, 1, 2] :: S5)) (by kernel_rfl) fun J => ?_
    obtain ⟨q2, q2x, h⟩ := h
    refine KR.p (one_ix 1 t6ab t6ao (by kernel_rfl) q2 q2x) ?_
    obtain ⟨t11, q3, h⟩ := h
    refine KR.rd (one_ld (by kernel_rfl) q3) ?_
    refine KR.run 6 [(0, .pointer t0), (6, .slice (some ⟨t6ab, t6ao, none⟩) t6n t6k), (7, .int .i64 t7), (8, .int .i64 t8), (12, .pointer t0), (14, .int .u64 (IntKind.wrap .u64 t11))] 17 (s' := (.reg (opsAt (sub B [1, 0, 0, 1, 1, 0, 0, 1])) [3] :: S4)) (by kernel_rfl) fun J => ?_
    obtain ⟨H_1, q4, h⟩ := h
    refine KR.se (one_ca (by kernel_rfl) q4) ?_
    exact KR.run 6 [(0, .pointer t0), (6, .slice (some ⟨t6ab, t6ao, none⟩) t6n t6k), (7, .int .i64 t7), (8, .int .i64 (IntKind.wrap .i64 (t8 + 1)))] 17 (s' := (.lp (sub B [1, 0, 0]) :: S0)) (by kernel_rfl) h
  · replace h := iteF c1 h
    refine KR.br false (by kernel_rfl) (vB (dF c1)) ?_
    refine KR.run 1 [] 17 (s' := []) (by kernel_rfl) fun J => ?_
    exact KR.fin0 (by kernel_rfl) h
theorem call {a0 : Option Addr} {a1a : Option Addr} {a1n : Nat} {a1k : Nat} {H : Heap} {r : Value × Heap} (h :
    L0 (a0) (a1a) (a1n) (a1k) (((a1n : Nat) : Int)) 0 H r) :
    xC Try.prog good 39 [.pointer a0, .slice a1a a1n a1k] H = some r := by
  refine KR.enter (fn := Try.f39) (c := B) (by kernel_rfl) (by kernel_rfl) ?_
  exact KR.run 8 [(0, .pointer a0), (6, .slice a1a a1n a1k), (7, .int .i64 ((a1n : Nat) : Int)), (8, .int .i64 0)] 17 (s' := (.lp (sub B [1, 0, 0]) :: S0)) (by kernel_rfl) h
end F39
/-! #### 40 (*campanile/bits.Writer).Even -/
namespace F40
noncomputable def B : Code := bodyOf Try.f40
noncomputable def S0 : List It := (.code (sub B [1]) :: [])
theorem call {a0 : Option Addr} {H : Heap} {r : Value × Heap} (h :
    if (Option.isNone a0) = true then
    (r = (.tuple #[], H))
    else
    (∃ (a0b a0o : Nat), a0 = some ⟨a0b, a0o, none⟩ ∧
    (∃ (t8a : Option Addr) (t8n : Nat) (t8k : Nat), ldc H a0b a0o = some (.slice t8a t8n t8k) ∧
    (∃ (H_1 : Heap), stc H a0b (a0o + 1) [.int .i64 (IntKind.wrap .i64 (8 * ((t8n : Nat) : Int)))] = some H_1 ∧
    (r = (.tuple #[], H_1)))))) :
    xC Try.prog good 40 [.pointer a0] H = some r := by
  refine KR.enter (fn := Try.f40) (c := B) (by kernel_rfl) (by kernel_rfl) ?_
  refine KR.run 3 [(0, .pointer a0), (2, .pointer a0)] 13 (s' := (.reg (opsAt (sub B [0])) [1] :: S0)) (by kernel_rfl) fun J => ?_
  refine KR.p (one_nl true a0 (by kernel_rfl)) ?_
  refine KR.run 1 [(0, .pointer a0), (3, .bool (!(Option.isNone a0)))] 13 (s' := (.code (sub B [1]) :: [])) (by kernel_rfl) fun J => ?_
  by_cases c2 : (Option.isNone a0) = true
  · replace h := iteT c2 h
    refine KR.br false (by kernel_rfl) (vB (nB (bT c2))) ?_
    refine KR.run 1 [] 13 (s' := []) (by kernel_rfl) fun J => ?_
    exact KR.fin0 (by kernel_rfl) h
  · replace h := iteF c2 h
    refine KR.br true (by kernel_rfl) (vB (nB (bF c2))) ?_
    obtain ⟨a0b, a0o, rfl, h⟩ := h
    refine KR.run 5 [(4, .pointer (some ⟨a0b, a0o, none⟩)), (7, .pointer (some ⟨a0b, a0o, none⟩))] 13 (s' := (.reg (opsAt (sub B [1, 0])) [4, 5, 6, 7, 8, 9] :: [])) (by kernel_rfl) fun J => ?_
    obtain ⟨t8a, t8n, t8k, q3, h⟩ := h
    refine KR.rd (one_ld (by kernel_rfl) q3) ?_
    refine KR.run 4 [(10, .int .i64 (IntKind.wrap .i64 (8 * ((t8n : Nat) : Int)))), (12, .pointer (some ⟨a0b, (a0o + 1), none⟩))] 13 (s' := (.reg (opsAt (sub B [1, 0])) [9] :: [])) (by kernel_rfl) fun J => ?_
    obtain ⟨H_1, q4, h⟩ := h
    refine KR.se (one_st (by kernel_rfl) q4) ?_
    refine KR.run 1 [] 13 (s' := []) (by kernel_rfl) fun J => ?_
    exact KR.fin0 (by kernel_rfl) h
end F40
/-! #### 51 campanile/bits.good -/
namespace F51
noncomputable def B : Code := bodyOf Try.f51
noncomputable def S0 : List It := (.code (sub B [1, 1]) :: [])
theorem call {a0 : Int} {H : Heap} {r : Value × Heap} (h :
    if a0 ≥ 0 then
    (r = (.bool (decide (a0 ≤ 64)), H))
    else
    (r = (.bool false, H))) :
    xC Try.prog good 51 [.int .i64 a0] H = some r := by
  refine KR.enter (fn := Try.f51) (c := B) (by kernel_rfl) (by kernel_rfl) ?_
  refine KR.run 9 [(0, .int .i64 a0), (5, .bool (decide (a0 ≥ 0)))] 9 (s' := (.reg (opsAt (sub B [1, 0])) [3, 4, 5, 6] :: S0)) (by kernel_rfl) fun J => ?_
  by_cases c1 : a0 ≥ 0
  · replace h := iteT c1 h
    refine KR.setV 5 (by kernel_rfl) (dT c1) ?_
    refine KR.run 5 [(2, .bool (decide (a0 ≤ 64)))] 9 (s' := (.code (sub B [1, 1]) :: [])) (by kernel_rfl) fun J => ?_
    exact KR.fin (by kernel_rfl) h
  · replace h := iteF c1 h
    refine KR.setV 5 (by kernel_rfl) (dF c1) ?_
    refine KR.run 5 [(2, .bool false)] 9 (s' := (.code (sub B [1, 1]) :: [])) (by kernel_rfl) fun J => ?_
    exact KR.fin (by kernel_rfl) h
end F51
/-! #### 52 (*campanile/bits.Reader).ready -/
namespace F52
noncomputable def B : Code := bodyOf Try.f52
noncomputable def S0 : List It := (.code (sub B [1, 1]) :: [])
noncomputable def S2 : List It := (.code (sub B [1, 1, 1]) :: [])
noncomputable def S1 : List It := (.code (sub B [1, 0, 1]) :: S0)
noncomputable def S3 : List It := (.code (sub B [1, 1, 0, 1]) :: S2)
noncomputable def S4 : List It := (.code (sub B [1, 1, 0, 1, 0, 1]) :: S2)
def L0 (t0 : Option Addr) (t1 : Int) (t13 : Bool) (H : Heap) (r : Value × Heap) : Prop := ∀ J, KR Try.prog good Try.f52 S1 (mat J 20 [(0, .pointer t0), (1, .int .i64 t1), (13, .bool t13)]) H r
theorem L0_step {t0 : Option Addr} {t1 : Int} {t13 : Bool} {H : Heap} {r : Value × Heap} (h :
    if t13 = true then
    (r = (.bool false, H))
    else
    (∃ (t16 : Int) (H_1 : Heap), xC Try.prog good 36 [.pointer t0] H = some (.int .i64 t16, H_1) ∧
    (if t1 > t16 then
    (∃ (H_2 : Heap), xC Try.prog good 66 [.pointer t0, .int .i64 2] H_1 = some (.tuple #[], H_2) ∧
    (r = (.bool false, H_2)))
    else
    (r = (.bool true, H_1))))) :
    L0 t0 t1 t13 H r := by
  intro J
  show KR _ _ _ (.code (sub B [1, 0, 1]) :: S0) _ _ _
  by_cases c4 : t13 = true
  · replace h := iteT c4 h
    refine KR.br true (by kernel_rfl) (vB (bT c4)) ?_
    refine KR.run 4 [(4, .bool false)] 20 (s' := (.code (sub B [1, 0, 1, 0, 1]) :: S0)) (by kernel_rfl) fun J => ?_
    exact KR.fin (by kernel_rfl) h
  · replace h := iteF c4 h
    refine KR.br false (by kernel_rfl) (vB (bF c4)) ?_
    refine KR.run 6 [(0, .pointer t0), (14, .int .i64 t1), (15, .pointer t0)] 20 (s' := (.reg (opsAt (sub B [1, 1, 0, 0])) [2, 3] :: S3)) (by kernel_rfl) fun J => ?_
    obtain ⟨t16, H_1, q5, h⟩ := h
    refine KR.se (one_ca (by kernel_rfl) q5) ?_
    refine KR.run 2 [(0, .pointer t0), (17, .bool (decide (t1 > t16)))] 20 (s' := (.code (sub B [1, 1, 0, 1]) :: S2)) (by kernel_rfl) fun J => ?_
    by_cases c6 : t1 > t16
    · replace h := iteT c6 h
      refine KR.br true (by kernel_rfl) (vB (dT c6)) ?_
      refine KR.run 3 [(18, .pointer t0)] 20 (s' := (.reg (opsAt (sub B [1, 1, 0, 1, 0, 0])) [1] :: S4)) (by kernel_rfl) fun J => ?_
      obtain ⟨H_2, q7, h⟩ := h
      refine KR.se (one_ca (by kernel_rfl) q7) ?_
      refine KR.run 5 [(4, .bool false)] 20 (s' := (.code (sub B [1, 1, 0, 1, 0, 1, 1]) :: S2)) (by kernel_rfl) fun J => ?_
      exact KR.fin (by kernel_rfl) h
    · replace h := iteF c6 h
      refine KR.br false (by kernel_rfl) (vB (dF c6)) ?_
      refine KR.run 5 [(4, .bool true)] 20 (s' := (.code (sub B [1, 1, 1, 1]) :: [])) (by kernel_rfl) fun J => ?_
      exact KR.fin (by kernel_rfl) h
theorem call {a0 : Option Addr} {a1 : Int} {H : Heap} {r : Value × Heap} (h :
    if (Option.isNone a0) = true then
    (L0 (a0) (a1) (true) H r)
    else
    (∃ (a0b a0o : Nat), a0 = some ⟨a0b, a0o, none⟩ ∧
    (∃ (t11 : Int), ldc H a0b (a0o + 2) = some (.int .i64 t11) ∧
    (L0 ((some ⟨a0b, a0o, none⟩)) (a1) ((!(t11 == 0))) H r)))) :
    xC Try.prog good 52 [.pointer a0, .int .i64 a1] H = some r := by
  refine KR.enter (fn := Try.f52) (c := B) (by kernel_rfl) (by kernel_rfl) ?_
  refine KR.run 8 [(0, .pointer a0), (1, .int .i64 a1), (5, .pointer a0)] 20 (s' := (.reg (opsAt (sub B [1, 0, 0])) [1, 2, 3, 4, 5, 6, 7, 8] :: S1)) (by kernel_rfl) fun J => ?_
  refine KR.p (one_nl false a0 (by kernel_rfl)) ?_
  refine KR.run 1 [(0, .pointer a0), (1, .int .i64 a1), (7, .bool (Option.isNone a0))] 20 (s' := (.reg (opsAt (sub B [1, 0, 0])) [3, 4, 5, 6, 7, 8] :: S1)) (by kernel_rfl) fun J => ?_
  by_cases c2 : (Option.isNone a0) = true
  · replace h := iteT c2 h
    refine KR.setV 7 (by kernel_rfl) (bT c2) ?_
    exact KR.run 7 [(0, .pointer a0), (1, .int .i64 a1), (13, .bool true)] 20 (s' := (.code (sub B [1, 0, 1]) :: S0)) (by kernel_rfl) h
  · replace h := iteF c2 h
    refine KR.setV 7 (by kernel_rfl) (bF c2) ?_
    obtain ⟨a0b, a0o, rfl, h⟩ := h
    refine KR.run 3 [(0, .pointer (some ⟨a0b, a0o, none⟩)), (1, .int .i64 a1), (7, .bool false), (10, .pointer (some ⟨a0b, (a0o + 2), none⟩))] 20 (s' := (.reg (opsAt (sub B [1, 0, 0])) [6, 7, 8] :: S1)) (by kernel_rfl) fun J => ?_
    obtain ⟨t11, q3, h⟩ := h
    refine KR.rd (one_ld (by kernel_rfl) q3) ?_
    exact KR.run 3 [(0, .pointer (some ⟨a0b, a0o, none⟩)), (1, .int .i64 a1), (13, .bool (!(t11 == 0)))] 20 (s' := (.code (sub B [1, 0, 1]) :: S0)) (by kernel_rfl) h
end F52
/-! #### 53 (*campanile/bits.Reader).bit -/
namespace F53
noncomputable def B : Code := bodyOf Try.f53
noncomputable def S0 : List It := (.code (sub B [1, 1]) :: [])
noncomputable def S1 : List It := (.code (sub B [1, 1, 1]) :: [])
theorem call {a0 : Option Addr} {H : Heap} {r : Value × Heap} (h :
    ∃ (a0b a0o : Nat), a0 = some ⟨a0b, a0o, none⟩ ∧
    (∃ (t7a : Option Addr) (t7n : Nat) (t7k : Nat), ldc H a0b a0o = some (.slice t7a t7n t7k) ∧
    (∃ (t11 : Int), ldc H a0b (a0o + 1) = some (.int .i64 t11) ∧
    (∃ (t7ab t7ao : Nat), t7a = some ⟨t7ab, t7ao, none⟩ ∧
    ((0 : Int) ≤ (IntKind.wrap .i64 (Int.tdiv t11 8)) ∧ (IntKind.wrap .i64 (Int.tdiv t11 8)) < ((t7n : Nat) : Int) ∧
    (∃ (t14 : Int), ldc H t7ab (t7ao + Int.toNat (IntKind.wrap .i64 (Int.tdiv t11 8)) * 1) = some (.int .u8 t14) ∧
    (∃ (t18 : Int), ldc H a0b (a0o + 1) = some (.int .i64 t18) ∧
    ((0 : Int) ≤ (IntKind.wrap .i64 (7 - (Int.tmod t18 8))) ∧
    (∃ (t26 : Int), ldc H a0b (a0o + 1) = some (.int .i64 t26) ∧
    (∃ (H_1 : Heap), stc H a0b (a0o + 1) [.int .i64 (IntKind.wrap .i64 (t26 + 1))] = some H_1 ∧
    (r = (.int .u64 (IntKind.wrap .u64 (iand .u8 (ishr .u8 t14 (IntKind.wrap .i64 (7 - (Int.tmod t18 8)))) 1)), H_1)))))))))))) :
    xC Try.prog good 53 [.pointer a0] H = some r := by
  refine KR.enter (fn := Try.f53) (c := B) (by kernel_rfl) (by kernel_rfl) ?_
  refine KR.run 5 [(0, .pointer a0)] 32 (s' := (.code (sub B [1, 0]) :: S0)) (by kernel_rfl) fun J => ?_
  refine KR.sd (by kernel_rfl) ?_
  obtain ⟨a0b, a0o, rfl, h⟩ := h
  refine KR.run 3 [(0, .pointer (some ⟨a0b, a0o, none⟩)), (6, .pointer (some ⟨a0b, a0o, none⟩))] 32 (s' := (.reg (opsAt (sub B [1, 0])) [3, 4, 5, 6, 7, 8, 9, 10, 11, 12, 13, 14, 15, 16, 17, 18, 19] :: S0)) (by kernel_rfl) fun J => ?_
  obtain ⟨t7a, t7n, t7k, q1, h⟩ := h
  refine KR.rd (one_ld (by kernel_rfl) q1) ?_
  refine KR.run 3 [(0, .pointer (some ⟨a0b, a0o, none⟩)), (7, .slice t7a t7n t7k), (10, .pointer (some ⟨a0b, (a0o + 1), none⟩))] 32 (s' := (.reg (opsAt (sub B [1, 0])) [7, 8, 9, 10, 11, 12, 13, 14, 15, 16, 17, 18, 19] :: S0)) (by kernel_rfl) fun J => ?_
  obtain ⟨t11, q2, h⟩ := h
  refine KR.rd (one_ld (by kernel_rfl) q2) ?_
  obtain ⟨t7ab, t7ao, rfl, h⟩ := h
  refine KR.run 1 [(0, .pointer (some ⟨a0b, a0o, none⟩)), (7, .slice (some ⟨t7ab, t7ao, none⟩) t7n t7k), (12, .int .i64 (IntKind.wrap .i64 (Int.tdiv t11 8)))] 32 (s' := (.reg (opsAt (sub B [1, 0])) [9, 10, 11, 12, 13, 14, 15, 16, 17, 18, 19] :: S0)) (by kernel_rfl) fun J => ?_
  obtain ⟨q3, q3x, h⟩ := h
  refine KR.p (one_ix 1 t7ab t7ao (by kernel_rfl) q3 q3x) ?_
  obtain ⟨t14, q4, h⟩ := h
  refine KR.rd (one_ld (by kernel_rfl) q4) ?_
  refine KR.run 3 [(0, .pointer (some ⟨a0b, a0o, none⟩)), (14, .int .u8 t14), (17, .pointer (some ⟨a0b, (a0o + 1), none⟩))] 32 (s' := (.reg (opsAt (sub B [1, 0])) [14, 15, 16, 17, 18, 19] :: S0)) (by kernel_rfl) fun J => ?_
  obtain ⟨t18, q5, h⟩ := h
  refine KR.rd (one_ld (by kernel_rfl) q5) ?_
  refine KR.run 2 [(0, .pointer (some ⟨a0b, a0o, none⟩)), (14, .int .u8 t14), (20, .int .i64 (IntKind.wrap .i64 (7 - (Int.tmod t18 8))))] 32 (s' := (.reg (opsAt (sub B [1, 0])) [17, 18, 19] :: S0)) (by kernel_rfl) fun J => ?_
  obtain ⟨q6, h⟩ := h
  refine KR.p (one_shr .u8 .i64 t14 (by kernel_rfl) q6) ?_
  refine KR.run 8 [(3, .int .u8 (iand .u8 (ishr .u8 t14 (IntKind.wrap .i64 (7 - (Int.tmod t18 8)))) 1)), (23, .pointer (some ⟨a0b, a0o, none⟩)), (25, .pointer (some ⟨a0b, (a0o + 1), none⟩))] 32 (s' := (.reg (opsAt (sub B [1, 1, 0])) [3, 4, 5, 6, 7] :: S1)) (by kernel_rfl) fun J => ?_
  obtain ⟨t26, q7, h⟩ := h
  refine KR.rd (one_ld (by kernel_rfl) q7) ?_
  refine KR.run 3 [(3, .int .u8 (iand .u8 (ishr .u8 t14 (IntKind.wrap .i64 (7 - (Int.tmod t18 8)))) 1)), (27, .int .i64 (IntKind.wrap .i64 (t26 + 1))), (29, .pointer (some ⟨a0b, (a0o + 1), none⟩))] 32 (s' := (.reg (opsAt (sub B [1, 1, 0])) [7] :: S1)) (by kernel_rfl) fun J => ?_
  obtain ⟨H_1, q8, h⟩ := h
  refine KR.se (one_st (by kernel_rfl) q8) ?_
  refine KR.run 7 [(2, .int .u64 (IntKind.wrap .u64 (iand .u8 (ishr .u8 t14 (IntKind.wrap .i64 (7 - (Int.tmod t18 8)))) 1)))] 32 (s' := (.code (sub B [1, 1, 1, 1]) :: [])) (by kernel_rfl) fun J => ?_
  exact KR.fin (by kernel_rfl) h
end F53
/-! #### 63 (*campanile/campanileref1.Row).Text -/
namespace F63
noncomputable def B : Code := bodyOf Try.f63
noncomputable def S0 : List It := (.blk 0 :: [])
noncomputable def S1 : List It := (.lp (sub B [1, 0, 0]) :: S0)
noncomputable def S2 : List It := (.code (sub B [1, 0, 0, 1, 1]) :: S1)
noncomputable def S3 : List It := (.code (sub B [1, 0, 0, 1, 1, 1]) :: S1)
noncomputable def S4 : List It := (.blk 1 :: S3)
noncomputable def S5 : List It := (.code (sub B [1, 0, 0, 1, 1, 0, 0, 1]) :: S4)
def L0 (t0 : Option Addr) (t6a : Option Addr) (t6n : Nat) (t6k : Nat) (t7 : Int) (t8 : Int) (H : Heap) (r : Value × Heap) : Prop := ∀ J, KR Try.prog good Try.f63 S1 (mat J 17 [(0, .pointer t0), (6, .slice t6a t6n t6k), (7, .int .i64 t7), (8, .int .i64 t8)]) H r
theorem L0_step {t0 : Option Addr} {t6a : Option Addr} {t6n : Nat} {t6k : Nat} {t7 : Int} {t8 : Int} {H : Heap} {r : Value × Heap} (h :
    if t8 < t7 then
    (∃ (t6ab t6ao : Nat), t6a = some ⟨t6ab, t6ao, none⟩ ∧
    ((0 : Int) ≤ t8 ∧ t8 < ((t6n : Nat) : Int) ∧
    (∃ (t11 : Int), ldc H t6ab (t6ao + Int.toNat t8 * 1) = some (.int .u8 t11) ∧
    (∃ (H_1 : Heap), xC Try.prog good 77 [.pointer t0, .int .u64 (IntKind.wrap .u64 t11), .int .i64 8] H = some (.tuple #[], H_1) ∧
    (L0 (t0) ((some ⟨t6ab, t6ao, none⟩)) (t6n) (t6k) (t7) ((IntKind.wrap .i64 (t8 + 1))) H_1 r)))))
    else
    (r = (.tuple #[], H))) :
    L0 t0 t6a t6n t6k t7 t8 H r := by
  intro J
  show KR _ _ _ (.lp (sub B [1, 0, 0]) :: S0) _ _ _
  refine KR.run 6 [(0, .pointer t0), (6, .slice t6a t6n t6k), (7, .int .i64 t7), (8, .int .i64 t8), (9, .bool (decide (t8 < t7)))] 17 (s' := (.code (sub B [1, 0, 0, 1, 0]) :: S2)) (by kernel_rfl) fun J => ?_
  by_cases c1 : t8 < t7
  · replace h := iteT c1 h
    refine KR.br true (by kernel_rfl) (vB (dT c1)) ?_
    obtain ⟨t6ab, t6ao, rfl, h⟩ := h
    refine KR.run 5 [(0, .pointer t0), (6, .slice (some ⟨t6ab, t6ao, none⟩) t6n t6k), (7, .int .i64 t7), (8, .int .i64 t8)] 17 (s' := (.reg (opsAt (sub B [1, 0, 0, 1, 1, 0, 0, 0])) [0, 1, 2] :: S5)) (by kernel_rfl) fun J => ?_
    obtain ⟨q2, q2x, h⟩ := h
    refine KR.p (one_ix 1 t6ab t6ao (by kernel_rfl) q2 q2x) ?_
    obtain ⟨t11, q3, h⟩ := h
    refine KR.rd (one_ld (by kernel_rfl) q3) ?_
    refine KR.run 6 [(0, .pointer t0), (6, .slice (some ⟨t6ab, t6ao, none⟩) t6n t6k), (7, .int .i64 t7), (8, .int .i64 t8), (12, .pointer t0), (14, .int .u64 (IntKind.wrap .u64 t11))] 17 (s' := (.reg (opsAt (sub B [1, 0, 0, 1, 1, 0, 0, 1])) [3] :: S4)) (by kernel_rfl) fun J => ?_
    obtain ⟨H_1, q4, h⟩ := h
    refine KR.se (one_ca (by kernel_rfl) q4) ?_
    exact KR.run 6 [(0, .pointer t0), (6, .slice (some ⟨t6ab, t6ao, none⟩) t6n t6k), (7, .int .i64 t7), (8, .int .i64 (IntKind.wrap .i64 (t8 + 1)))] 17 (s' := (.lp (sub B [1, 0, 0]) :: S0)) (by kernel_rfl) h
  · replace h := iteF c1 h
    refine KR.br false (by kernel_rfl) (vB (dF c1)) ?_
    refine KR.run 1 [] 17 (s' := []) (by kernel_rfl) fun J => ?_
    exact KR.fin0 (by kernel_rfl) h
theorem call {a0 : Option Addr} {a1a : Option Addr} {a1n : Nat} {a1k : Nat} {H : Heap} {r : Value × Heap} (h :
    L0 (a0) (a1a) (a1n) (a1k) (((a1n : Nat) : Int)) 0 H r) :
    xC Try.prog good 63 [.pointer a0, .slice a1a a1n a1k] H = some r := by
  refine KR.enter (fn := Try.f63) (c := B) (by kernel_rfl) (by kernel_rfl) ?_
  exact KR.run 8 [(0, .pointer a0), (6, .slice a1a a1n a1k), (7, .int .i64 ((a1n : Nat) : Int)), (8, .int .i64 0)] 17 (s' := (.lp (sub B [1, 0, 0]) :: S0)) (by kernel_rfl) h
end F63
/-! #### 64 (*campanile/bits.Reader).bytes -/
namespace F64
noncomputable def B : Code := bodyOf Try.f64
noncomputable def S0 : List It := (.code (sub B [1, 1]) :: [])
noncomputable def S2 : List It := (.code (sub B [1, 1, 1]) :: [])
noncomputable def S1 : List It := (.code (sub B [1, 0, 1]) :: S0)
theorem call {a0 : Option Addr} {H : Heap} {r : Value × Heap} (h :
    if (Option.isNone a0) = true then
    (r = (.slice none 0 0, H))
    else
    (∃ (a0b a0o : Nat), a0 = some ⟨a0b, a0o, none⟩ ∧
    (∃ (t8a : Option Addr) (t8n : Nat) (t8k : Nat), ldc H a0b a0o = some (.slice t8a t8n t8k) ∧
    (r = (.slice t8a t8n t8k, H))))) :
    xC Try.prog good 64 [.pointer a0] H = some r := by
  refine KR.enter (fn := Try.f64) (c := B) (by kernel_rfl) (by kernel_rfl) ?_
  refine KR.run 8 [(0, .pointer a0), (3, .pointer a0)] 9 (s' := (.reg (opsAt (sub B [1, 0, 0])) [1] :: S1)) (by kernel_rfl) fun J => ?_
  refine KR.p (one_nl false a0 (by kernel_rfl)) ?_
  refine KR.run 1 [(0, .pointer a0), (4, .bool (Option.isNone a0))] 9 (s' := (.code (sub B [1, 0, 1]) :: S0)) (by kernel_rfl) fun J => ?_
  by_cases c2 : (Option.isNone a0) = true
  · replace h := iteT c2 h
    refine KR.br true (by kernel_rfl) (vB (bT c2)) ?_
    refine KR.run 4 [(2, .slice none 0 0)] 9 (s' := (.code (sub B [1, 0, 1, 0, 1]) :: S0)) (by kernel_rfl) fun J => ?_
    exact KR.fin (by kernel_rfl) h
  · replace h := iteF c2 h
    refine KR.br false (by kernel_rfl) (vB (bF c2)) ?_
    obtain ⟨a0b, a0o, rfl, h⟩ := h
    refine KR.run 6 [(7, .pointer (some ⟨a0b, a0o, none⟩))] 9 (s' := (.reg (opsAt (sub B [1, 1, 0])) [3, 4] :: S2)) (by kernel_rfl) fun J => ?_
    obtain ⟨t8a, t8n, t8k, q3, h⟩ := h
    refine KR.rd (one_ld (by kernel_rfl) q3) ?_
    refine KR.run 2 [(2, .slice t8a t8n t8k)] 9 (s' := (.code (sub B [1, 1, 1]) :: [])) (by kernel_rfl) fun J => ?_
    exact KR.fin (by kernel_rfl) h
end F64
/-! #### 65 (*campanile/campanileref1.Row).fails -/
namespace F65
noncomputable def B : Code := bodyOf Try.f65
theorem call {a0 : Option Addr} {a1 : Int} {H : Heap} {r : Value × Heap} (h :
    ∃ (a0b a0o : Nat), a0 = some ⟨a0b, a0o, none⟩ ∧
    (∃ (H_1 : Heap), stc H a0b a0o [.slice none 0 0] = some H_1 ∧
    (∃ (H_2 : Heap), stc H_1 a0b (a0o + 1) [.int .i64 a1] = some H_2 ∧
    (r = (.tuple #[], H_2))))) :
    xC Try.prog good 65 [.pointer a0, .int .i64 a1] H = some r := by
  refine KR.enter (fn := Try.f65) (c := B) (by kernel_rfl) (by kernel_rfl) ?_
  obtain ⟨a0b, a0o, rfl, h⟩ := h
  refine KR.run 6 [(5, .pointer (some ⟨a0b, a0o, none⟩)), (6, .int .i64 a1), (8, .pointer (some ⟨a0b, a0o, none⟩))] 11 (s' := (.reg (opsAt (sub B [])) [5, 6, 7, 8] :: [])) (by kernel_rfl) fun J => ?_
  obtain ⟨H_1, q1, h⟩ := h
  refine KR.se (one_st (by kernel_rfl) q1) ?_
  refine KR.run 2 [(6, .int .i64 a1), (10, .pointer (some ⟨a0b, (a0o + 1), none⟩))] 11 (s' := (.reg (opsAt (sub B [])) [8] :: [])) (by kernel_rfl) fun J => ?_
  obtain ⟨H_2, q2, h⟩ := h
  refine KR.se (one_st (by kernel_rfl) q2) ?_
  refine KR.run 1 [] 11 (s' := []) (by kernel_rfl) fun J => ?_
  exact KR.fin0 (by kernel_rfl) h
end F65
/-! #### 66 (*campanile/bits.Reader).fails -/
namespace F66
noncomputable def B : Code := bodyOf Try.f66
theorem call {a0 : Option Addr} {a1 : Int} {H : Heap} {r : Value × Heap} (h :
    ∃ (a0b a0o : Nat), a0 = some ⟨a0b, a0o, none⟩ ∧
    (∃ (H_1 : Heap), stc H a0b (a0o + 2) [.int .i64 a1] = some H_1 ∧
    (∃ (H_2 : Heap), stc H_1 a0b a0o [.slice none 0 0] = some H_2 ∧
    (∃ (H_3 : Heap), stc H_2 a0b (a0o + 1) [.int .i64 0] = some H_3 ∧
    (r = (.tuple #[], H_3)))))) :
    xC Try.prog good 66 [.pointer a0, .int .i64 a1] H = some r := by
  refine KR.enter (fn := Try.f66) (c := B) (by kernel_rfl) (by kernel_rfl) ?_
  obtain ⟨a0b, a0o, rfl, h⟩ := h
  refine KR.run 7 [(5, .pointer (some ⟨a0b, a0o, none⟩)), (6, .pointer (some ⟨a0b, a0o, none⟩)), (7, .int .i64 a1), (9, .pointer (some ⟨a0b, (a0o + 2), none⟩))] 14 (s' := (.reg (opsAt (sub B [])) [6, 7, 8, 9, 10, 11, 12] :: [])) (by kernel_rfl) fun J => ?_
  obtain ⟨H_1, q1, h⟩ := h
  refine KR.se (one_st (by kernel_rfl) q1) ?_
  refine KR.run 2 [(6, .pointer (some ⟨a0b, a0o, none⟩)), (11, .pointer (some ⟨a0b, a0o, none⟩))] 14 (s' := (.reg (opsAt (sub B [])) [9, 10, 11, 12] :: [])) (by kernel_rfl) fun J => ?_
  obtain ⟨H_2, q2, h⟩ := h
  refine KR.se (one_st (by kernel_rfl) q2) ?_
  refine KR.run 2 [(13, .pointer (some ⟨a0b, (a0o + 1), none⟩))] 14 (s' := (.reg (opsAt (sub B [])) [12] :: [])) (by kernel_rfl) fun J => ?_
  obtain ⟨H_3, q3, h⟩ := h
  refine KR.se (one_st (by kernel_rfl) q3) ?_
  refine KR.run 1 [] 14 (s' := []) (by kernel_rfl) fun J => ?_
  exact KR.fin0 (by kernel_rfl) h
end F66
/-! #### 77 (*campanile/campanileref1.Row).Put -/
namespace F77
noncomputable def B : Code := bodyOf Try.f77
noncomputable def S0 : List It := (.blk 0 :: [])
noncomputable def S1 : List It := (.lp (sub B [1, 0, 0]) :: S0)
noncomputable def S2 : List It := (.code (sub B [1, 0, 0, 1]) :: S1)
noncomputable def S4 : List It := (.code (sub B [1, 0, 0, 1, 1]) :: S1)
noncomputable def S3 : List It := (.code (sub B [1, 0, 0, 0, 1]) :: S2)
noncomputable def S5 : List It := (.blk 1 :: S4)
def L0 (t0 : Option Addr) (t1 : Int) (t2 : Int) (t6 : Int) (H : Heap) (r : Value × Heap) : Prop := ∀ J, KR Try.prog good Try.f77 S1 (mat J 32 [(0, .pointer t0), (1, .int .u64 t1), (2, .int .i64 t2), (6, .int .i64 t6)]) H r
def L1 (t0 : Option Addr) (t1 : Int) (t2 : Int) (t6 : Int) (t14 : Bool) (H : Heap) (r : Value × Heap) : Prop := ∀ J, KR Try.prog good Try.f77 S3 (mat J 32 [(0, .pointer t0), (1, .int .u64 t1), (2, .int .i64 t2), (6, .int .i64 t6), (14, .bool t14)]) H r
theorem L0_step {t0 : Option Addr} {t1 : Int} {t2 : Int} {t6 : Int} {H : Heap} {r : Value × Heap} (h :
    if t2 ≤ 64 then
    (L1 (t0) (t1) (t2) (t6) ((decide (t6 ≥ 0))) H r)
    else
    (L1 (t0) (t1) (t2) (t6) (false) H r)) :
    L0 t0 t1 t2 t6 H r := by
  intro J
  show KR _ _ _ (.lp (sub B [1, 0, 0]) :: S0) _ _ _
  refine KR.run 7 [(0, .pointer t0), (1, .int .u64 t1), (2, .int .i64 t2), (6, .int .i64 t6), (11, .bool (decide (t2 ≤ 64)))] 32 (s' := (.reg (opsAt (sub B [1, 0, 0, 0, 0])) [3, 4, 5] :: S3)) (by kernel_rfl) fun J => ?_
  by_cases c1 : t2 ≤ 64
  · replace h := iteT c1 h
    refine KR.setV 11 (by kernel_rfl) (dT c1) ?_
    exact KR.run 4 [(0, .pointer t0), (1, .int .u64 t1), (2, .int .i64 t2), (6, .int .i64 t6), (14, .bool (decide (t6 ≥ 0)))] 32 (s' := (.code (sub B [1, 0, 0, 0, 1]) :: S2)) (by kernel_rfl) h
  · replace h := iteF c1 h
    refine KR.setV 11 (by kernel_rfl) (dF c1) ?_
    exact KR.run 4 [(0, .pointer t0), (1, .int .u64 t1), (2, .int .i64 t2), (6, .int .i64 t6), (14, .bool false)] 32 (s' := (.code (sub B [1, 0, 0, 0, 1]) :: S2)) (by kernel_rfl) h
theorem L1_step {t0 : Option Addr} {t1 : Int} {t2 : Int} {t6 : Int} {t14 : Bool} {H : Heap} {r : Value × Heap} (h :
    if t14 = true then
    (∃ (t0b t0o : Nat), t0 = some ⟨t0b, t0o, none⟩ ∧
    (∃ (t21a : Option Addr) (t21n : Nat) (t21k : Nat), ldc H t0b t0o = some (.slice t21a t21n t21k) ∧
    ((0 : Int) ≤ (IntKind.wrap .u64 t6) ∧
    (∃ (H_1 : Heap), H_1 = H.push (.row [.int .u8 (IntKind.wrap .u8 (iand .u64 (ishr .u64 t1 (IntKind.wrap .u64 t6)) 1))] true) ∧
    (∃ (t29a : Option Addr) (t29n : Nat) (t29k : Nat) (H_2 : Heap), papp H_1 1 1 t21a t21n t21k (some ⟨H.next, 0, none⟩) 1 (UNK 1) = some ((t29a, t29n, t29k), H_2) ∧
    (∃ (H_3 : Heap), stc H_2 t0b t0o [.slice t29a t29n t29k] = some H_3 ∧
    (L0 ((some ⟨t0b, t0o, none⟩)) (t1) (t2) ((IntKind.wrap .i64 (t6 - 1))) H_3 r)))))))
    else
    (r = (.tuple #[], H))) :
    L1 t0 t1 t2 t6 t14 H r := by
  intro J
  show KR _ _ _ (.code (sub B [1, 0, 0, 0, 1]) :: S2) _ _ _
  by_cases c2 : t14 = true
  · replace h := iteT c2 h
    refine KR.br true (by kernel_rfl) (vB (bT c2)) ?_
    obtain ⟨t0b, t0o, rfl, h⟩ := h
    refine KR.run 8 [(0, .pointer (some ⟨t0b, t0o, none⟩)), (1, .int .u64 t1), (2, .int .i64 t2), (6, .int .i64 t6), (17, .pointer (some ⟨t0b, t0o, none⟩)), (20, .pointer (some ⟨t0b, t0o, none⟩))] 32 (s' := (.reg (opsAt (sub B [1, 0, 0, 1, 0, 0])) [4, 5, 6, 7, 8, 9, 10, 11, 12, 13, 14, 15] :: S5)) (by kernel_rfl) fun J => ?_
    obtain ⟨t21a, t21n, t21k, q3, h⟩ := h
    refine KR.rd (one_ld (by kernel_rfl) q3) ?_
    refine KR.run 3 [(0, .pointer (some ⟨t0b, t0o, none⟩)), (1, .int .u64 t1), (2, .int .i64 t2), (6, .int .i64 t6), (17, .pointer (some ⟨t0b, t0o, none⟩)), (21, .slice t21a t21n t21k), (22, .int .u64 t1), (24, .int .u64 (IntKind.wrap .u64 t6))] 32 (s' := (.reg (opsAt (sub B [1, 0, 0, 1, 0, 0])) [8, 9, 10, 11, 12, 13, 14, 15] :: S5)) (by kernel_rfl) fun J => ?_
    obtain ⟨q4, h⟩ := h
    refine KR.p (one_shr .u64 .u64 t1 (by kernel_rfl) q4) ?_
    refine KR.run 2 [(0, .pointer (some ⟨t0b, t0o, none⟩)), (1, .int .u64 t1), (2, .int .i64 t2), (6, .int .i64 t6), (17, .pointer (some ⟨t0b, t0o, none⟩)), (21, .slice t21a t21n t21k), (27, .int .u8 (IntKind.wrap .u8 (iand .u64 (ishr .u64 t1 (IntKind.wrap .u64 t6)) 1)))] 32 (s' := (.reg (opsAt (sub B [1, 0, 0, 1, 0, 0])) [11, 12, 13, 14, 15] :: S5)) (by kernel_rfl) fun J => ?_
    obtain ⟨H_1, q5, h⟩ := h
    refine KR.mk (w := sRow 1 1 [.int .u8 (IntKind.wrap .u8 (iand .u64 (ishr .u64 t1 (IntKind.wrap .u64 t6)) 1))]) (one_al (by kernel_rfl)) q5 ?_
    obtain ⟨t29a, t29n, t29k, H_2, q6, h⟩ := h
    refine KR.se (one_ap 1 1 (by kernel_rfl) q6) ?_
    refine KR.run 2 [(0, .pointer (some ⟨t0b, t0o, none⟩)), (1, .int .u64 t1), (2, .int .i64 t2), (6, .int .i64 t6), (29, .slice t29a t29n t29k), (31, .pointer (some ⟨t0b, t0o, none⟩))] 32 (s' := (.reg (opsAt (sub B [1, 0, 0, 1, 0, 0])) [15] :: S5)) (by kernel_rfl) fun J => ?_
    obtain ⟨H_3, q7, h⟩ := h
    refine KR.se (one_st (by kernel_rfl) q7) ?_
    exact KR.run 7 [(0, .pointer (some ⟨t0b, t0o, none⟩)), (1, .int .u64 t1), (2, .int .i64 t2), (6, .int .i64 (IntKind.wrap .i64 (t6 - 1)))] 32 (s' := (.lp (sub B [1, 0, 0]) :: S0)) (by kernel_rfl) h
  · replace h := iteF c2 h
    refine KR.br false (by kernel_rfl) (vB (bF c2)) ?_
    refine KR.run 1 [] 32 (s' := []) (by kernel_rfl) fun J => ?_
    exact KR.fin0 (by kernel_rfl) h
theorem call {a0 : Option Addr} {a1 : Int} {a2 : Int} {H : Heap} {r : Value × Heap} (h :
    L0 (a0) (a1) (a2) ((IntKind.wrap .i64 (a2 - 1))) H r) :
    xC Try.prog good 77 [.pointer a0, .int .u64 a1, .int .i64 a2] H = some r := by
  refine KR.enter (fn := Try.f77) (c := B) (by kernel_rfl) (by kernel_rfl) ?_
  exact KR.run 8 [(0, .pointer a0), (1, .int .u64 a1), (2, .int .i64 a2), (6, .int .i64 (IntKind.wrap .i64 (a2 - 1)))] 32 (s' := (.lp (sub B [1, 0, 0]) :: S0)) (by kernel_rfl) h
end F77
end Go.X
