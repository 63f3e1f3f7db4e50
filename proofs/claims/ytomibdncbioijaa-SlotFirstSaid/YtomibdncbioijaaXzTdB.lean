/- The walks of the functions: printed. -/
import Derived.Test.YtomibdncbioijaaXzGd
set_option linter.unusedVariables false
set_option maxRecDepth 100000
namespace Go.X
open Go Go.RowKit Go.Proofs
/-! #### 4 campanile/campanilelaw9.SlotFirst -/
namespace F4
noncomputable def B : Code := bodyOf Try.f4
noncomputable def S0 : List It := (.code (sub B [1, 1]) :: [])
noncomputable def S3 : List It := (.code (sub B [1, 1, 1]) :: [])
noncomputable def S4 : List It := (.code (sub B [1, 1, 1, 1]) :: [])
noncomputable def S11 : List It := (.code (sub B [1, 1, 1, 1, 1]) :: [])
noncomputable def S1 : List It := (.code (sub B [1, 0, 1]) :: S0)
noncomputable def S2 : List It := (.code (sub B [1, 0, 1, 0, 1]) :: S0)
noncomputable def S5 : List It := (.code (sub B [1, 1, 1, 0, 1]) :: S4)
noncomputable def S6 : List It := (.blk 0 :: S4)
noncomputable def S7 : List It := (.code (sub B [1, 1, 1, 0, 1, 0, 1, 0, 1]) :: S6)
noncomputable def S9 : List It := (.code (sub B [1, 1, 1, 0, 1, 0, 1, 1, 1, 0, 1]) :: S6)
noncomputable def S12 : List It := (.code (sub B [1, 1, 1, 0, 1, 0, 1, 0, 1, 1]) :: S6)
noncomputable def S13 : List It := (.code (sub B [1, 1, 1, 0, 1, 0, 1, 1, 1, 0, 1, 1]) :: S6)
noncomputable def S21 : List It := (.code (sub B [1, 1, 1, 0, 1, 0, 1, 1, 1, 0, 1, 1, 1]) :: S6)
noncomputable def S8 : List It := (.code (sub B [1, 1, 1, 0, 1, 0, 1, 0, 0, 1]) :: S7)
noncomputable def S10 : List It := (.code (sub B [1, 1, 1, 0, 1, 0, 1, 1, 1, 0, 0, 1]) :: S9)
noncomputable def S14 : List It := (.blk 1 :: S13)
noncomputable def S15 : List It := (.lp (sub B [1, 1, 1, 0, 1, 0, 1, 1, 1, 0, 1, 0, 1, 0, 0]) :: S14)
noncomputable def S16 : List It := (.code (sub B [1, 1, 1, 0, 1, 0, 1, 1, 1, 0, 1, 0, 1, 0, 0, 1, 1]) :: S15)
noncomputable def S17 : List It := (.code (sub B [1, 1, 1, 0, 1, 0, 1, 1, 1, 0, 1, 0, 1, 0, 0, 1, 1, 1]) :: S15)
noncomputable def S18 : List It := (.blk 2 :: S17)
noncomputable def S19 : List It := (.code (sub B [1, 1, 1, 0, 1, 0, 1, 1, 1, 0, 1, 0, 1, 0, 0, 1, 1, 0, 0, 1]) :: S18)
noncomputable def S20 : List It := (.blk 3 :: S18)
noncomputable def S22 : List It := (.lp (sub B [1, 1, 1, 0, 1, 0, 1, 1, 1, 0, 1, 0, 1, 0, 0, 1, 1, 0, 0, 1, 1, 0, 0]) :: S20)
noncomputable def S23 : List It := (.code (sub B [1, 1, 1, 0, 1, 0, 1, 1, 1, 0, 1, 0, 1, 0, 0, 1, 1, 0, 0, 1, 1, 0, 0, 1, 1]) :: S22)
noncomputable def S24 : List It := (.code (sub B [1, 1, 1, 0, 1, 0, 1, 1, 1, 0, 1, 0, 1, 0, 0, 1, 1, 0, 0, 1, 1, 0, 0, 1, 1, 1]) :: S22)
noncomputable def S25 : List It := (.blk 4 :: S24)
noncomputable def S26 : List It := (.code (sub B [1, 1, 1, 0, 1, 0, 1, 1, 1, 0, 1, 0, 1, 0, 0, 1, 1, 0, 0, 1, 1, 0, 0, 1, 1, 0, 0, 1]) :: S25)
noncomputable def S27 : List It := (.code (sub B [1, 1, 1, 0, 1, 0, 1, 1, 1, 0, 1, 0, 1, 0, 0, 1, 1, 0, 0, 1, 1, 0, 0, 1, 1, 0, 0, 1, 1]) :: S25)
def L0 (t0a : Option Addr) (t0n : Nat) (t0k : Nat) (t1a : Option Addr) (t1n : Nat) (t1k : Nat) (t2a : Option Addr) (t2n : Nat) (t2k : Nat) (t3 : Bool) (t26 : Bool) (H : Heap) (r : Value × Heap) : Prop := ∀ J, KR Try.prog good Try.f4 S1 (mat J 155 [(0, .slice t0a t0n t0k), (1, .slice t1a t1n t1k), (2, .slice t2a t2n t2k), (3, .bool t3), (26, .bool t26)]) H r
def L1 (t0a : Option Addr) (t0n : Nat) (t0k : Nat) (t1a : Option Addr) (t1n : Nat) (t1k : Nat) (t2a : Option Addr) (t2n : Nat) (t2k : Nat) (t3 : Bool) (t9b : Nat) (t9o : Nat) (t80 : Bool) (H : Heap) (r : Value × Heap) : Prop := ∀ J, KR Try.prog good Try.f4 S8 (mat J 155 [(0, .slice t0a t0n t0k), (1, .slice t1a t1n t1k), (2, .slice t2a t2n t2k), (3, .bool t3), (9, .pointer (some ⟨t9b, t9o, none⟩)), (80, .bool t80)]) H r
def L2 (t0a : Option Addr) (t0n : Nat) (t0k : Nat) (t2a : Option Addr) (t2n : Nat) (t2k : Nat) (t3 : Bool) (t105 : Bool) (H : Heap) (r : Value × Heap) : Prop := ∀ J, KR Try.prog good Try.f4 S10 (mat J 155 [(0, .slice t0a t0n t0k), (2, .slice t2a t2n t2k), (3, .bool t3), (105, .bool t105)]) H r
def L3 (t2a : Option Addr) (t2n : Nat) (t2k : Nat) (t3 : Bool) (t106a : Option Addr) (t106n : Nat) (t106k : Nat) (t107 : Int) (t108 : Int) (H : Heap) (r : Value × Heap) : Prop := ∀ J, KR Try.prog good Try.f4 S15 (mat J 155 [(2, .slice t2a t2n t2k), (3, .bool t3), (106, .slice t106a t106n t106k), (107, .int .i64 t107), (108, .int .i64 t108)]) H r
def L4 (t2a : Option Addr) (t2n : Nat) (t2k : Nat) (t3 : Bool) (t11b : Nat) (t11o : Nat) (t106b : Nat) (t106o : Nat) (t106n : Nat) (t106k : Nat) (t107 : Int) (t108 : Int) (t112a : Option Addr) (t112n : Nat) (t112k : Nat) (t113 : Int) (t114 : Int) (H : Heap) (r : Value × Heap) : Prop := ∀ J, KR Try.prog good Try.f4 S22 (mat J 155 [(2, .slice t2a t2n t2k), (3, .bool t3), (11, .pointer (some ⟨t11b, t11o, none⟩)), (106, .slice (some ⟨t106b, t106o, none⟩) t106n t106k), (107, .int .i64 t107), (108, .int .i64 t108), (112, .slice t112a t112n t112k), (113, .int .i64 t113), (114, .int .i64 t114)]) H r
def L5 (t2a : Option Addr) (t2n : Nat) (t2k : Nat) (t3 : Bool) (t11b : Nat) (t11o : Nat) (t106b : Nat) (t106o : Nat) (t106n : Nat) (t106k : Nat) (t107 : Int) (t108 : Int) (t112b : Nat) (t112o : Nat) (t112n : Nat) (t112k : Nat) (t113 : Int) (t114 : Int) (t145 : Bool) (H : Heap) (r : Value × Heap) : Prop := ∀ J, KR Try.prog good Try.f4 S27 (mat J 155 [(2, .slice t2a t2n t2k), (3, .bool t3), (11, .pointer (some ⟨t11b, t11o, none⟩)), (106, .slice (some ⟨t106b, t106o, none⟩) t106n t106k), (107, .int .i64 t107), (108, .int .i64 t108), (112, .slice (some ⟨t112b, t112o, none⟩) t112n t112k), (113, .int .i64 t113), (114, .int .i64 t114), (145, .bool t145)]) H r
theorem L0_step {t0a : Option Addr} {t0n : Nat} {t0k : Nat} {t1a : Option Addr} {t1n : Nat} {t1k : Nat} {t2a : Option Addr} {t2n : Nat} {t2k : Nat} {t3 : Bool} {t26 : Bool} {H : Heap} {r : Value × Heap} (h :
    if t26 = true then
    (∃ (t27 : Bool) (H_1 : Heap), xC Try.prog good 12 [] H = some (.bool t27, H_1) ∧
    (r = (.bool t27, H_1)))
    else
    (∃ (t31c0 : Int) (t31c1 : Int) (t31c2 : Int) (t31c3 : Int) (t31c4 : Int) (t31c5 : Int) (t31c6 : Int) (H_2 : Heap), xC Try.prog good 13 [.slice t0a t0n t0k, .slice t2a t2n t2k, .bool t3] H = some (.agg #[.int .i64 t31c0, .int .i64 t31c1, .int .i64 t31c2, .int .i64 t31c3, .int .i64 t31c4, .int .i64 t31c5, .int .i64 t31c6], H_2) ∧
    (∃ (H_3 : Heap), H_3 = H_2.push (.row [.int .i64 0, .int .i64 0, .int .i64 0, .int .i64 0, .int .i64 0, .int .i64 0, .int .i64 0] true) ∧
    (∃ (H_4 : Heap), stc H_3 H_2.next 0 [.int .i64 t31c0, .int .i64 t31c1, .int .i64 t31c2, .int .i64 t31c3, .int .i64 t31c4, .int .i64 t31c5, .int .i64 t31c6] = some H_4 ∧
    (∃ (t33 : Int), ldc H_4 H_2.next 0 = some (.int .i64 t33) ∧
    (if t33 = 1 then
    (∃ (t37 : Int), ldc H_4 H_2.next 6 = some (.int .i64 t37) ∧
    (if t37 < 0 then
    (L1 (t0a) (t0n) (t0k) (t1a) (t1n) (t1k) (t2a) (t2n) (t2k) (t3) (H_2.next) (0) (true) H_4 r)
    else
    (∃ (t41 : Int), ldc H_4 H_2.next 6 = some (.int .i64 t41) ∧
    (if t41 ≥ ((t2n : Nat) : Int) then
    (L1 (t0a) (t0n) (t0k) (t1a) (t1n) (t1k) (t2a) (t2n) (t2k) (t3) (H_2.next) (0) (true) H_4 r)
    else
    (∃ (t49 : Int), ldc H_4 H_2.next 4 = some (.int .i64 t49) ∧
    (if (iand .i64 t49 1) = 0 then
    (L1 (t0a) (t0n) (t0k) (t1a) (t1n) (t1k) (t2a) (t2n) (t2k) (t3) (H_2.next) (0) (true) H_4 r)
    else
    (∃ (t56 : Int), ldc H_4 H_2.next 4 = some (.int .i64 t56) ∧
    (if (iand .i64 t56 4) = 0 then
    (∃ (t67 : Int), ldc H_4 H_2.next 5 = some (.int .i64 t67) ∧
    (if t67 = 64 then
    (L1 (t0a) (t0n) (t0k) (t1a) (t1n) (t1k) (t2a) (t2n) (t2k) (t3) (H_2.next) (0) (false) H_4 r)
    else
    (∃ (t72 : Int), ldc H_4 H_2.next 5 = some (.int .i64 t72) ∧
    (∃ (t75 : Int), ldc H_4 H_2.next 6 = some (.int .i64 t75) ∧
    (∃ (t2ab t2ao : Nat), t2a = some ⟨t2ab, t2ao, none⟩ ∧
    ((0 : Int) ≤ t75 ∧ t75 < ((t2n : Nat) : Int) ∧
    (∃ (t77 : Int), ldc H_4 t2ab (t2ao + Int.toNat t75 * 1) = some (.int .i64 t77) ∧
    (L1 (t0a) (t0n) (t0k) (t1a) (t1n) (t1k) ((some ⟨t2ab, t2ao, none⟩)) (t2n) (t2k) (t3) (H_2.next) (0) ((!(t72 == t77))) H_4 r))))))))
    else
    (if t3 = true then
    (∃ (t67_1 : Int), ldc H_4 H_2.next 5 = some (.int .i64 t67_1) ∧
    (if t67_1 = 64 then
    (L1 (t0a) (t0n) (t0k) (t1a) (t1n) (t1k) (t2a) (t2n) (t2k) (t3) (H_2.next) (0) (false) H_4 r)
    else
    (∃ (t72_1 : Int), ldc H_4 H_2.next 5 = some (.int .i64 t72_1) ∧
    (∃ (t75_1 : Int), ldc H_4 H_2.next 6 = some (.int .i64 t75_1) ∧
    (∃ (t2ab_1 t2ao_1 : Nat), t2a = some ⟨t2ab_1, t2ao_1, none⟩ ∧
    ((0 : Int) ≤ t75_1 ∧ t75_1 < ((t2n : Nat) : Int) ∧
    (∃ (t77_1 : Int), ldc H_4 t2ab_1 (t2ao_1 + Int.toNat t75_1 * 1) = some (.int .i64 t77_1) ∧
    (L1 (t0a) (t0n) (t0k) (t1a) (t1n) (t1k) ((some ⟨t2ab_1, t2ao_1, none⟩)) (t2n) (t2k) (t3) (H_2.next) (0) ((!(t72_1 == t77_1))) H_4 r))))))))
    else
    (L1 (t0a) (t0n) (t0k) (t1a) (t1n) (t1k) (t2a) (t2n) (t2k) (t3) (H_2.next) (0) (true) H_4 r))))))))))
    else
    (if t33 = 2 then
    (∃ (t98 : Int), ldc H_4 H_2.next 4 = some (.int .i64 t98) ∧
    (if (iand .i64 t98 2) = 0 then
    (L2 (t0a) (t0n) (t0k) (t2a) (t2n) (t2k) (t3) (true) H_4 r)
    else
    (∃ (t103 : Int), ldc H_4 H_2.next 6 = some (.int .i64 t103) ∧
    (L2 (t0a) (t0n) (t0k) (t2a) (t2n) (t2k) (t3) ((!(t103 == 0))) H_4 r))))
    else
    (∃ (t149c0 : Int) (t149c1 : Int) (t149c2 : Int) (t149c3 : Int) (t149c4 : Int) (t149c5 : Int) (t149c6 : Int), ldAll H_4 H_2.next 0 [.int .i64 t149c0, .int .i64 t149c1, .int .i64 t149c2, .int .i64 t149c3, .int .i64 t149c4, .int .i64 t149c5, .int .i64 t149c6] ∧
    (if ((t149c0 == 0) && (((t149c1 == 0) && ((t149c2 == 0) && ((t149c3 == 0) && ((t149c4 == 0) && ((t149c5 == 0) && true))))) && ((t149c6 == 0) && true))) = true then
    (∃ (t153 : Bool) (H_5 : Heap), xC Try.prog good 12 [] H_4 = some (.bool t153, H_5) ∧
    (r = (.bool t153, H_5)))
    else
    (r = (.bool false, H_4))))))))))) :
    L0 t0a t0n t0k t1a t1n t1k t2a t2n t2k t3 t26 H r := by
  intro J
  show KR _ _ _ (.code (sub B [1, 0, 1]) :: S0) _ _ _
  by_cases c3 : t26 = true
  · replace h := iteT c3 h
    refine KR.br true (by kernel_rfl) (vB (bT c3)) ?_
    refine KR.run 2 [] 155 (s' := (.reg (opsAt (sub B [1, 0, 1, 0, 0])) [0, 1] :: S2)) (by kernel_rfl) fun J => ?_
    obtain ⟨t27, H_1, q4, h⟩ := h
    refine KR.se (one_ca (by kernel_rfl) q4) ?_
    refine KR.run 2 [(8, .bool t27)] 155 (s' := (.code (sub B [1, 0, 1, 0, 1]) :: S0)) (by kernel_rfl) fun J => ?_
    exact KR.fin (by kernel_rfl) h
  · replace h := iteF c3 h
    refine KR.br false (by kernel_rfl) (vB (bF c3)) ?_
    refine KR.run 6 [(0, .slice t0a t0n t0k), (1, .slice t1a t1n t1k), (2, .slice t2a t2n t2k), (3, .bool t3), (28, .slice t0a t0n t0k), (29, .slice t2a t2n t2k), (30, .bool t3)] 155 (s' := (.reg (opsAt (sub B [1, 1, 0])) [3, 4, 5] :: S3)) (by kernel_rfl) fun J => ?_
    obtain ⟨t31c0, t31c1, t31c2, t31c3, t31c4, t31c5, t31c6, H_2, q5, h⟩ := h
    refine KR.se (one_ca (by kernel_rfl) q5) ?_
    obtain ⟨H_3, q6, h⟩ := h
    refine KR.mk (w := pRow [.int .i64 0, .int .i64 0, .int .i64 0, .int .i64 0, .int .i64 0, .int .i64 0, .int .i64 0]) (one_al (by kernel_rfl)) q6 ?_
    obtain ⟨H_4, q7, h⟩ := h
    refine KR.se (one_st (by kernel_rfl) q7) ?_
    refine KR.run 5 [(0, .slice t0a t0n t0k), (1, .slice t1a t1n t1k), (2, .slice t2a t2n t2k), (3, .bool t3), (9, .pointer (some ⟨H_2.next, 0, none⟩)), (32, .pointer (some ⟨H_2.next, 0, none⟩))] 155 (s' := (.reg (opsAt (sub B [1, 1, 1, 0, 0])) [1] :: S5)) (by kernel_rfl) fun J => ?_
    obtain ⟨t33, q8, h⟩ := h
    refine KR.rd (one_ld (by kernel_rfl) q8) ?_
    refine KR.run 7 [(0, .slice t0a t0n t0k), (1, .slice t1a t1n t1k), (2, .slice t2a t2n t2k), (3, .bool t3), (9, .pointer (some ⟨H_2.next, 0, none⟩)), (33, .int .i64 t33), (34, .bool (t33 == 1))] 155 (s' := (.code (sub B [1, 1, 1, 0, 1, 0, 1]) :: S6)) (by kernel_rfl) fun J => ?_
    by_cases c9 : t33 = 1
    · replace h := iteT c9 h
      refine KR.br true (by kernel_rfl) (vB (eT c9)) ?_
      refine KR.run 2 [(0, .slice t0a t0n t0k), (1, .slice t1a t1n t1k), (2, .slice t2a t2n t2k), (3, .bool t3), (9, .pointer (some ⟨H_2.next, 0, none⟩))] 155 (s' := (.code (sub B [1, 1, 1, 0, 1, 0, 1, 0, 0, 0]) :: S8)) (by kernel_rfl) fun J => ?_
      refine KR.sd (by kernel_rfl) ?_
      refine KR.run 1 [(0, .slice t0a t0n t0k), (1, .slice t1a t1n t1k), (2, .slice t2a t2n t2k), (3, .bool t3), (9, .pointer (some ⟨H_2.next, 0, none⟩)), (36, .pointer (some ⟨H_2.next, 6, none⟩))] 155 (s' := (.reg (opsAt (sub B [1, 1, 1, 0, 1, 0, 1, 0, 0, 0])) [1, 2, 3, 4, 5, 6, 7, 8, 9, 10, 11, 12, 13, 14, 15, 16, 17, 18, 19, 20, 21, 22, 23, 24, 25, 26, 27, 28, 29, 30, 31, 32, 33, 34, 35, 36, 37, 38, 39, 40, 41, 42, 43, 44] :: S8)) (by kernel_rfl) fun J => ?_
      obtain ⟨t37, q10, h⟩ := h
      refine KR.rd (one_ld (by kernel_rfl) q10) ?_
      refine KR.run 2 [(0, .slice t0a t0n t0k), (1, .slice t1a t1n t1k), (2, .slice t2a t2n t2k), (3, .bool t3), (9, .pointer (some ⟨H_2.next, 0, none⟩)), (39, .bool (decide (t37 < 0)))] 155 (s' := (.reg (opsAt (sub B [1, 1, 1, 0, 1, 0, 1, 0, 0, 0])) [4, 5, 6, 7, 8, 9, 10, 11, 12, 13, 14, 15, 16, 17, 18, 19, 20, 21, 22, 23, 24, 25, 26, 27, 28, 29, 30, 31, 32, 33, 34, 35, 36, 37, 38, 39, 40, 41, 42, 43, 44] :: S8)) (by kernel_rfl) fun J => ?_
      by_cases c11 : t37 < 0
      · replace h := iteT c11 h
        refine KR.setV 39 (by kernel_rfl) (dT c11) ?_
        exact KR.run 42 [(0, .slice t0a t0n t0k), (1, .slice t1a t1n t1k), (2, .slice t2a t2n t2k), (3, .bool t3), (9, .pointer (some ⟨H_2.next, 0, none⟩)), (80, .bool true)] 155 (s' := (.code (sub B [1, 1, 1, 0, 1, 0, 1, 0, 0, 1]) :: S7)) (by kernel_rfl) h
      · replace h := iteF c11 h
        refine KR.setV 39 (by kernel_rfl) (dF c11) ?_
        refine KR.run 1 [(0, .slice t0a t0n t0k), (1, .slice t1a t1n t1k), (2, .slice t2a t2n t2k), (3, .bool t3), (9, .pointer (some ⟨H_2.next, 0, none⟩)), (39, .bool false), (40, .pointer (some ⟨H_2.next, 6, none⟩))] 155 (s' := (.reg (opsAt (sub B [1, 1, 1, 0, 1, 0, 1, 0, 0, 0])) [5, 6, 7, 8, 9, 10, 11, 12, 13, 14, 15, 16, 17, 18, 19, 20, 21, 22, 23, 24, 25, 26, 27, 28, 29, 30, 31, 32, 33, 34, 35, 36, 37, 38, 39, 40, 41, 42, 43, 44] :: S8)) (by kernel_rfl) fun J => ?_
        obtain ⟨t41, q12, h⟩ := h
        refine KR.rd (one_ld (by kernel_rfl) q12) ?_
        refine KR.run 5 [(0, .slice t0a t0n t0k), (1, .slice t1a t1n t1k), (2, .slice t2a t2n t2k), (3, .bool t3), (9, .pointer (some ⟨H_2.next, 0, none⟩)), (46, .bool (decide (t41 ≥ ((t2n : Nat) : Int))))] 155 (s' := (.reg (opsAt (sub B [1, 1, 1, 0, 1, 0, 1, 0, 0, 0])) [11, 12, 13, 14, 15, 16, 17, 18, 19, 20, 21, 22, 23, 24, 25, 26, 27, 28, 29, 30, 31, 32, 33, 34, 35, 36, 37, 38, 39, 40, 41, 42, 43, 44] :: S8)) (by kernel_rfl) fun J => ?_
        by_cases c13 : t41 ≥ ((t2n : Nat) : Int)
        · replace h := iteT c13 h
          refine KR.setV 46 (by kernel_rfl) (dT c13) ?_
          exact KR.run 35 [(0, .slice t0a t0n t0k), (1, .slice t1a t1n t1k), (2, .slice t2a t2n t2k), (3, .bool t3), (9, .pointer (some ⟨H_2.next, 0, none⟩)), (80, .bool true)] 155 (s' := (.code (sub B [1, 1, 1, 0, 1, 0, 1, 0, 0, 1]) :: S7)) (by kernel_rfl) h
        · replace h := iteF c13 h
          refine KR.setV 46 (by kernel_rfl) (dF c13) ?_
          refine KR.run 2 [(0, .slice t0a t0n t0k), (1, .slice t1a t1n t1k), (2, .slice t2a t2n t2k), (3, .bool t3), (9, .pointer (some ⟨H_2.next, 0, none⟩)), (46, .bool false), (48, .pointer (some ⟨H_2.next, 4, none⟩))] 155 (s' := (.reg (opsAt (sub B [1, 1, 1, 0, 1, 0, 1, 0, 0, 0])) [13, 14, 15, 16, 17, 18, 19, 20, 21, 22, 23, 24, 25, 26, 27, 28, 29, 30, 31, 32, 33, 34, 35, 36, 37, 38, 39, 40, 41, 42, 43, 44] :: S8)) (by kernel_rfl) fun J => ?_
          obtain ⟨t49, q14, h⟩ := h
          refine KR.rd (one_ld (by kernel_rfl) q14) ?_
          refine KR.run 4 [(0, .slice t0a t0n t0k), (1, .slice t1a t1n t1k), (2, .slice t2a t2n t2k), (3, .bool t3), (9, .pointer (some ⟨H_2.next, 0, none⟩)), (53, .bool ((iand .i64 t49 1) == 0))] 155 (s' := (.reg (opsAt (sub B [1, 1, 1, 0, 1, 0, 1, 0, 0, 0])) [18, 19, 20, 21, 22, 23, 24, 25, 26, 27, 28, 29, 30, 31, 32, 33, 34, 35, 36, 37, 38, 39, 40, 41, 42, 43, 44] :: S8)) (by kernel_rfl) fun J => ?_
          by_cases c15 : (iand .i64 t49 1) = 0
          · replace h := iteT c15 h
            refine KR.setV 53 (by kernel_rfl) (eT c15) ?_
            exact KR.run 28 [(0, .slice t0a t0n t0k), (1, .slice t1a t1n t1k), (2, .slice t2a t2n t2k), (3, .bool t3), (9, .pointer (some ⟨H_2.next, 0, none⟩)), (80, .bool true)] 155 (s' := (.code (sub B [1, 1, 1, 0, 1, 0, 1, 0, 0, 1]) :: S7)) (by kernel_rfl) h
          · replace h := iteF c15 h
            refine KR.setV 53 (by kernel_rfl) (eF c15) ?_
            refine KR.run 2 [(0, .slice t0a t0n t0k), (1, .slice t1a t1n t1k), (2, .slice t2a t2n t2k), (3, .bool t3), (9, .pointer (some ⟨H_2.next, 0, none⟩)), (53, .bool false), (55, .pointer (some ⟨H_2.next, 4, none⟩))] 155 (s' := (.reg (opsAt (sub B [1, 1, 1, 0, 1, 0, 1, 0, 0, 0])) [20, 21, 22, 23, 24, 25, 26, 27, 28, 29, 30, 31, 32, 33, 34, 35, 36, 37, 38, 39, 40, 41, 42, 43, 44] :: S8)) (by kernel_rfl) fun J => ?_
            obtain ⟨t56, q16, h⟩ := h
            refine KR.rd (one_ld (by kernel_rfl) q16) ?_
            refine KR.run 3 [(0, .slice t0a t0n t0k), (1, .slice t1a t1n t1k), (2, .slice t2a t2n t2k), (3, .bool t3), (9, .pointer (some ⟨H_2.next, 0, none⟩)), (53, .bool false), (59, .bool (!((iand .i64 t56 4) == 0)))] 155 (s' := (.reg (opsAt (sub B [1, 1, 1, 0, 1, 0, 1, 0, 0, 0])) [24, 25, 26, 27, 28, 29, 30, 31, 32, 33, 34, 35, 36, 37, 38, 39, 40, 41, 42, 43, 44] :: S8)) (by kernel_rfl) fun J => ?_
            by_cases c17 : (iand .i64 t56 4) = 0
            · replace h := iteT c17 h
              refine KR.setV 59 (by kernel_rfl) (nB (eT c17)) ?_
              refine KR.run 7 [(0, .slice t0a t0n t0k), (1, .slice t1a t1n t1k), (2, .slice t2a t2n t2k), (3, .bool t3), (9, .pointer (some ⟨H_2.next, 0, none⟩)), (64, .bool false), (66, .pointer (some ⟨H_2.next, 5, none⟩))] 155 (s' := (.reg (opsAt (sub B [1, 1, 1, 0, 1, 0, 1, 0, 0, 0])) [31, 32, 33, 34, 35, 36, 37, 38, 39, 40, 41, 42, 43, 44] :: S8)) (by kernel_rfl) fun J => ?_
              obtain ⟨t67, q18, h⟩ := h
              refine KR.rd (one_ld (by kernel_rfl) q18) ?_
              refine KR.run 2 [(0, .slice t0a t0n t0k), (1, .slice t1a t1n t1k), (2, .slice t2a t2n t2k), (3, .bool t3), (9, .pointer (some ⟨H_2.next, 0, none⟩)), (64, .bool false), (69, .bool (!(t67 == 64)))] 155 (s' := (.reg (opsAt (sub B [1, 1, 1, 0, 1, 0, 1, 0, 0, 0])) [34, 35, 36, 37, 38, 39, 40, 41, 42, 43, 44] :: S8)) (by kernel_rfl) fun J => ?_
              by_cases c19 : t67 = 64
              · replace h := iteT c19 h
                refine KR.setV 69 (by kernel_rfl) (nB (eT c19)) ?_
                exact KR.run 12 [(0, .slice t0a t0n t0k), (1, .slice t1a t1n t1k), (2, .slice t2a t2n t2k), (3, .bool t3), (9, .pointer (some ⟨H_2.next, 0, none⟩)), (80, .bool false)] 155 (s' := (.code (sub B [1, 1, 1, 0, 1, 0, 1, 0, 0, 1]) :: S7)) (by kernel_rfl) h
              · replace h := iteF c19 h
                refine KR.setV 69 (by kernel_rfl) (nB (eF c19)) ?_
                refine KR.run 2 [(0, .slice t0a t0n t0k), (1, .slice t1a t1n t1k), (2, .slice t2a t2n t2k), (3, .bool t3), (9, .pointer (some ⟨H_2.next, 0, none⟩)), (64, .bool false), (69, .bool true), (71, .pointer (some ⟨H_2.next, 5, none⟩))] 155 (s' := (.reg (opsAt (sub B [1, 1, 1, 0, 1, 0, 1, 0, 0, 0])) [36, 37, 38, 39, 40, 41, 42, 43, 44] :: S8)) (by kernel_rfl) fun J => ?_
                obtain ⟨t72, q20, h⟩ := h
                refine KR.rd (one_ld (by kernel_rfl) q20) ?_
                refine KR.run 2 [(0, .slice t0a t0n t0k), (1, .slice t1a t1n t1k), (2, .slice t2a t2n t2k), (3, .bool t3), (9, .pointer (some ⟨H_2.next, 0, none⟩)), (64, .bool false), (69, .bool true), (72, .int .i64 t72), (73, .slice t2a t2n t2k), (74, .pointer (some ⟨H_2.next, 6, none⟩))] 155 (s' := (.reg (opsAt (sub B [1, 1, 1, 0, 1, 0, 1, 0, 0, 0])) [39, 40, 41, 42, 43, 44] :: S8)) (by kernel_rfl) fun J => ?_
                obtain ⟨t75, q21, h⟩ := h
                refine KR.rd (one_ld (by kernel_rfl) q21) ?_
                obtain ⟨t2ab, t2ao, rfl, h⟩ := h
                obtain ⟨q22, q22x, h⟩ := h
                refine KR.p (one_ix 1 t2ab t2ao (by kernel_rfl) q22 q22x) ?_
                obtain ⟨t77, q23, h⟩ := h
                refine KR.rd (one_ld (by kernel_rfl) q23) ?_
                exact KR.run 4 [(0, .slice t0a t0n t0k), (1, .slice t1a t1n t1k), (2, .slice (some ⟨t2ab, t2ao, none⟩) t2n t2k), (3, .bool t3), (9, .pointer (some ⟨H_2.next, 0, none⟩)), (80, .bool (!(t72 == t77)))] 155 (s' := (.code (sub B [1, 1, 1, 0, 1, 0, 1, 0, 0, 1]) :: S7)) (by kernel_rfl) h
            · replace h := iteF c17 h
              refine KR.setV 59 (by kernel_rfl) (nB (eF c17)) ?_
              refine KR.run 5 [(0, .slice t0a t0n t0k), (1, .slice t1a t1n t1k), (2, .slice t2a t2n t2k), (3, .bool t3), (9, .pointer (some ⟨H_2.next, 0, none⟩)), (64, .bool (!t3))] 155 (s' := (.reg (opsAt (sub B [1, 1, 1, 0, 1, 0, 1, 0, 0, 0])) [29, 30, 31, 32, 33, 34, 35, 36, 37, 38, 39, 40, 41, 42, 43, 44] :: S8)) (by kernel_rfl) fun J => ?_
              by_cases c24 : t3 = true
              · replace h := iteT c24 h
                refine KR.setV 64 (by kernel_rfl) (nB (bT c24)) ?_
                refine KR.run 2 [(0, .slice t0a t0n t0k), (1, .slice t1a t1n t1k), (2, .slice t2a t2n t2k), (3, .bool t3), (9, .pointer (some ⟨H_2.next, 0, none⟩)), (64, .bool false), (66, .pointer (some ⟨H_2.next, 5, none⟩))] 155 (s' := (.reg (opsAt (sub B [1, 1, 1, 0, 1, 0, 1, 0, 0, 0])) [31, 32, 33, 34, 35, 36, 37, 38, 39, 40, 41, 42, 43, 44] :: S8)) (by kernel_rfl) fun J => ?_
                obtain ⟨t67_1, q25, h⟩ := h
                refine KR.rd (one_ld (by kernel_rfl) q25) ?_
                refine KR.run 2 [(0, .slice t0a t0n t0k), (1, .slice t1a t1n t1k), (2, .slice t2a t2n t2k), (3, .bool t3), (9, .pointer (some ⟨H_2.next, 0, none⟩)), (64, .bool false), (69, .bool (!(t67_1 == 64)))] 155 (s' := (.reg (opsAt (sub B [1, 1, 1, 0, 1, 0, 1, 0, 0, 0])) [34, 35, 36, 37, 38, 39, 40, 41, 42, 43, 44] :: S8)) (by kernel_rfl) fun J => ?_
                by_cases c26 : t67_1 = 64
                · replace h := iteT c26 h
                  refine KR.setV 69 (by kernel_rfl) (nB (eT c26)) ?_
                  exact KR.run 12 [(0, .slice t0a t0n t0k), (1, .slice t1a t1n t1k), (2, .slice t2a t2n t2k), (3, .bool t3), (9, .pointer (some ⟨H_2.next, 0, none⟩)), (80, .bool false)] 155 (s' := (.code (sub B [1, 1, 1, 0, 1, 0, 1, 0, 0, 1]) :: S7)) (by kernel_rfl) h
                · replace h := iteF c26 h
                  refine KR.setV 69 (by kernel_rfl) (nB (eF c26)) ?_
                  refine KR.run 2 [(0, .slice t0a t0n t0k), (1, .slice t1a t1n t1k), (2, .slice t2a t2n t2k), (3, .bool t3), (9, .pointer (some ⟨H_2.next, 0, none⟩)), (64, .bool false), (69, .bool true), (71, .pointer (some ⟨H_2.next, 5, none⟩))] 155 (s' := (.reg (opsAt (sub B [1, 1, 1, 0, 1, 0, 1, 0, 0, 0])) [36, 37, 38, 39, 40, 41, 42, 43, 44] :: S8)) (by kernel_rfl) fun J => ?_
                  obtain ⟨t72_1, q27, h⟩ := h
                  refine KR.rd (one_ld (by kernel_rfl) q27) ?_
                  refine KR.run 2 [(0, .slice t0a t0n t0k), (1, .slice t1a t1n t1k), (2, .slice t2a t2n t2k), (3, .bool t3), (9, .pointer (some ⟨H_2.next, 0, none⟩)), (64, .bool false), (69, .bool true), (72, .int .i64 t72_1), (73, .slice t2a t2n t2k), (74, .pointer (some ⟨H_2.next, 6, none⟩))] 155 (s' := (.reg (opsAt (sub B [1, 1, 1, 0, 1, 0, 1, 0, 0, 0])) [39, 40, 41, 42, 43, 44] :: S8)) (by kernel_rfl) fun J => ?_
                  obtain ⟨t75_1, q28, h⟩ := h
                  refine KR.rd (one_ld (by kernel_rfl) q28) ?_
                  obtain ⟨t2ab_1, t2ao_1, rfl, h⟩ := h
                  obtain ⟨q29, q29x, h⟩ := h
                  refine KR.p (one_ix 1 t2ab_1 t2ao_1 (by kernel_rfl) q29 q29x) ?_
                  obtain ⟨t77_1, q30, h⟩ := h
                  refine KR.rd (one_ld (by kernel_rfl) q30) ?_
                  exact KR.run 4 [(0, .slice t0a t0n t0k), (1, .slice t1a t1n t1k), (2, .slice (some ⟨t2ab_1, t2ao_1, none⟩) t2n t2k), (3, .bool t3), (9, .pointer (some ⟨H_2.next, 0, none⟩)), (80, .bool (!(t72_1 == t77_1)))] 155 (s' := (.code (sub B [1, 1, 1, 0, 1, 0, 1, 0, 0, 1]) :: S7)) (by kernel_rfl) h
              · replace h := iteF c24 h
                refine KR.setV 64 (by kernel_rfl) (nB (bF c24)) ?_
                exact KR.run 17 [(0, .slice t0a t0n t0k), (1, .slice t1a t1n t1k), (2, .slice t2a t2n t2k), (3, .bool t3), (9, .pointer (some ⟨H_2.next, 0, none⟩)), (80, .bool true)] 155 (s' := (.code (sub B [1, 1, 1, 0, 1, 0, 1, 0, 0, 1]) :: S7)) (by kernel_rfl) h
    · replace h := iteF c9 h
      refine KR.br false (by kernel_rfl) (vB (eF c9)) ?_
      refine KR.run 5 [(0, .slice t0a t0n t0k), (2, .slice t2a t2n t2k), (3, .bool t3), (9, .pointer (some ⟨H_2.next, 0, none⟩)), (94, .bool (t33 == 2))] 155 (s' := (.code (sub B [1, 1, 1, 0, 1, 0, 1, 1, 1]) :: S6)) (by kernel_rfl) fun J => ?_
      by_cases c31 : t33 = 2
      · replace h := iteT c31 h
        refine KR.br true (by kernel_rfl) (vB (eT c31)) ?_
        refine KR.run 5 [(0, .slice t0a t0n t0k), (2, .slice t2a t2n t2k), (3, .bool t3), (9, .pointer (some ⟨H_2.next, 0, none⟩)), (97, .pointer (some ⟨H_2.next, 4, none⟩))] 155 (s' := (.reg (opsAt (sub B [1, 1, 1, 0, 1, 0, 1, 1, 1, 0, 0, 0])) [2, 3, 4, 5, 6, 7, 8, 9] :: S10)) (by kernel_rfl) fun J => ?_
        obtain ⟨t98, q32, h⟩ := h
        refine KR.rd (one_ld (by kernel_rfl) q32) ?_
        refine KR.run 3 [(0, .slice t0a t0n t0k), (2, .slice t2a t2n t2k), (3, .bool t3), (9, .pointer (some ⟨H_2.next, 0, none⟩)), (101, .bool ((iand .i64 t98 2) == 0))] 155 (s' := (.reg (opsAt (sub B [1, 1, 1, 0, 1, 0, 1, 1, 1, 0, 0, 0])) [6, 7, 8, 9] :: S10)) (by kernel_rfl) fun J => ?_
        by_cases c33 : (iand .i64 t98 2) = 0
        · replace h := iteT c33 h
          refine KR.setV 101 (by kernel_rfl) (eT c33) ?_
          exact KR.run 5 [(0, .slice t0a t0n t0k), (2, .slice t2a t2n t2k), (3, .bool t3), (105, .bool true)] 155 (s' := (.code (sub B [1, 1, 1, 0, 1, 0, 1, 1, 1, 0, 0, 1]) :: S9)) (by kernel_rfl) h
        · replace h := iteF c33 h
          refine KR.setV 101 (by kernel_rfl) (eF c33) ?_
          refine KR.run 1 [(0, .slice t0a t0n t0k), (2, .slice t2a t2n t2k), (3, .bool t3), (101, .bool false), (102, .pointer (some ⟨H_2.next, 6, none⟩))] 155 (s' := (.reg (opsAt (sub B [1, 1, 1, 0, 1, 0, 1, 1, 1, 0, 0, 0])) [7, 8, 9] :: S10)) (by kernel_rfl) fun J => ?_
          obtain ⟨t103, q34, h⟩ := h
          refine KR.rd (one_ld (by kernel_rfl) q34) ?_
          exact KR.run 3 [(0, .slice t0a t0n t0k), (2, .slice t2a t2n t2k), (3, .bool t3), (105, .bool (!(t103 == 0)))] 155 (s' := (.code (sub B [1, 1, 1, 0, 1, 0, 1, 1, 1, 0, 0, 1]) :: S9)) (by kernel_rfl) h
      · replace h := iteF c31 h
        refine KR.br false (by kernel_rfl) (vB (eF c31)) ?_
        refine KR.run 4 [(9, .pointer (some ⟨H_2.next, 0, none⟩))] 155 (s' := (.reg (opsAt (sub B [1, 1, 1, 1, 0])) [0, 1, 2, 3, 4, 5, 6] :: S11)) (by kernel_rfl) fun J => ?_
        obtain ⟨t149c0, t149c1, t149c2, t149c3, t149c4, t149c5, t149c6, q35, h⟩ := h
        refine KR.rd (one_ldA (by kernel_rfl) q35) ?_
        refine KR.run 3 [(152, .bool ((t149c0 == 0) && (((t149c1 == 0) && ((t149c2 == 0) && ((t149c3 == 0) && ((t149c4 == 0) && ((t149c5 == 0) && true))))) && ((t149c6 == 0) && true))))] 155 (s' := (.reg (opsAt (sub B [1, 1, 1, 1, 0])) [4, 5, 6] :: S11)) (by kernel_rfl) fun J => ?_
        by_cases c36 : ((t149c0 == 0) && (((t149c1 == 0) && ((t149c2 == 0) && ((t149c3 == 0) && ((t149c4 == 0) && ((t149c5 == 0) && true))))) && ((t149c6 == 0) && true))) = true
        · replace h := iteT c36 h
          refine KR.setV 152 (by kernel_rfl) (bT c36) ?_
          obtain ⟨t153, H_5, q37, h⟩ := h
          refine KR.se (one_ca (by kernel_rfl) q37) ?_
          refine KR.run 3 [(8, .bool t153)] 155 (s' := (.code (sub B [1, 1, 1, 1, 1]) :: [])) (by kernel_rfl) fun J => ?_
          exact KR.fin (by kernel_rfl) h
        · replace h := iteF c36 h
          refine KR.setV 152 (by kernel_rfl) (bF c36) ?_
          refine KR.run 4 [(8, .bool false)] 155 (s' := (.code (sub B [1, 1, 1, 1, 1]) :: [])) (by kernel_rfl) fun J => ?_
          exact KR.fin (by kernel_rfl) h
theorem L1_step {t0a : Option Addr} {t0n : Nat} {t0k : Nat} {t1a : Option Addr} {t1n : Nat} {t1k : Nat} {t2a : Option Addr} {t2n : Nat} {t2k : Nat} {t3 : Bool} {t9b : Nat} {t9o : Nat} {t80 : Bool} {H : Heap} {r : Value × Heap} (h :
    if t80 = true then
    (r = (.bool false, H))
    else
    (∃ (H_1 : Heap), H_1 = H.push (.row [] true) ∧
    (∃ (t83a : Option Addr) (t83n : Nat) (t83k : Nat) (H_2 : Heap), papp H_1 5 40 (some ⟨H.next, 0, none⟩) 0 (UNK 5) t0a t0n t0k = some ((t83a, t83n, t83k), H_2) ∧
    (∃ (t85a : Option Addr) (t85n : Nat) (t85k : Nat) (H_3 : Heap), papp H_2 5 40 t83a t83n t83k t1a t1n t1k = some ((t85a, t85n, t85k), H_3) ∧
    (∃ (t88c0 : Int) (t88c1 : Int) (t88c2 : Int) (t88c3 : Int) (t88c4 : Int) (t88c5 : Int) (t88c6 : Int) (H_4 : Heap), xC Try.prog good 13 [.slice t85a t85n t85k, .slice t2a t2n t2k, .bool t3] H_3 = some (.agg #[.int .i64 t88c0, .int .i64 t88c1, .int .i64 t88c2, .int .i64 t88c3, .int .i64 t88c4, .int .i64 t88c5, .int .i64 t88c6], H_4) ∧
    (∃ (t89c0 : Int) (t89c1 : Int) (t89c2 : Int) (t89c3 : Int) (t89c4 : Int) (t89c5 : Int) (t89c6 : Int), ldAll H t9b t9o [.int .i64 t89c0, .int .i64 t89c1, .int .i64 t89c2, .int .i64 t89c3, .int .i64 t89c4, .int .i64 t89c5, .int .i64 t89c6] ∧
    (if ((t88c0 == t89c0) && (((t88c1 == t89c1) && ((t88c2 == t89c2) && ((t88c3 == t89c3) && ((t88c4 == t89c4) && ((t88c5 == t89c5) && true))))) && ((t88c6 == t89c6) && true))) = true then
    (∃ (t92 : Bool) (H_5 : Heap), xC Try.prog good 12 [] H_4 = some (.bool t92, H_5) ∧
    (ldAll H_1 t9b t9o [.int .i64 t89c0, .int .i64 t89c1, .int .i64 t89c2, .int .i64 t89c3, .int .i64 t89c4, .int .i64 t89c5, .int .i64 t89c6] ∧
    ldAll H_2 t9b t9o [.int .i64 t89c0, .int .i64 t89c1, .int .i64 t89c2, .int .i64 t89c3, .int .i64 t89c4, .int .i64 t89c5, .int .i64 t89c6] ∧
    ldAll H_3 t9b t9o [.int .i64 t89c0, .int .i64 t89c1, .int .i64 t89c2, .int .i64 t89c3, .int .i64 t89c4, .int .i64 t89c5, .int .i64 t89c6] ∧
    ldAll H_4 t9b t9o [.int .i64 t89c0, .int .i64 t89c1, .int .i64 t89c2, .int .i64 t89c3, .int .i64 t89c4, .int .i64 t89c5, .int .i64 t89c6] ∧
    (r = (.bool t92, H_5))))
    else
    (ldAll H_1 t9b t9o [.int .i64 t89c0, .int .i64 t89c1, .int .i64 t89c2, .int .i64 t89c3, .int .i64 t89c4, .int .i64 t89c5, .int .i64 t89c6] ∧
    ldAll H_2 t9b t9o [.int .i64 t89c0, .int .i64 t89c1, .int .i64 t89c2, .int .i64 t89c3, .int .i64 t89c4, .int .i64 t89c5, .int .i64 t89c6] ∧
    ldAll H_3 t9b t9o [.int .i64 t89c0, .int .i64 t89c1, .int .i64 t89c2, .int .i64 t89c3, .int .i64 t89c4, .int .i64 t89c5, .int .i64 t89c6] ∧
    ldAll H_4 t9b t9o [.int .i64 t89c0, .int .i64 t89c1, .int .i64 t89c2, .int .i64 t89c3, .int .i64 t89c4, .int .i64 t89c5, .int .i64 t89c6] ∧
    (r = (.bool false, H_4)))))))))) :
    L1 t0a t0n t0k t1a t1n t1k t2a t2n t2k t3 t9b t9o t80 H r := by
  intro J
  show KR _ _ _ (.code (sub B [1, 1, 1, 0, 1, 0, 1, 0, 0, 1]) :: S7) _ _ _
  by_cases c38 : t80 = true
  · replace h := iteT c38 h
    refine KR.br true (by kernel_rfl) (vB (bT c38)) ?_
    refine KR.run 4 [(8, .bool false)] 155 (s' := (.code (sub B [1, 1, 1, 0, 1, 0, 1, 0, 0, 1, 0, 1]) :: S7)) (by kernel_rfl) fun J => ?_
    exact KR.fin (by kernel_rfl) h
  · replace h := iteF c38 h
    refine KR.br false (by kernel_rfl) (vB (bF c38)) ?_
    refine KR.run 2 [(0, .slice t0a t0n t0k), (1, .slice t1a t1n t1k), (2, .slice t2a t2n t2k), (3, .bool t3), (9, .pointer (some ⟨t9b, t9o, none⟩))] 155 (s' := (.code (sub B [1, 1, 1, 0, 1, 0, 1, 0, 1, 0]) :: S12)) (by kernel_rfl) fun J => ?_
    refine KE.start H (by kernel_rfl) (by kernel_rfl) ?_
    obtain ⟨H_1, q39, h⟩ := h
    refine KE.mk (w := sRow 0 5 []) (one_al (by kernel_rfl)) (by kernel_rfl) (by kernel_rfl) q39 ?_
    refine KE.run 1 [(1, .slice t1a t1n t1k), (2, .slice t2a t2n t2k), (3, .bool t3), (9, .pointer (some ⟨t9b, t9o, none⟩)), (81, .slice (some ⟨H.next, 0, none⟩) 0 (UNK 5)), (82, .slice t0a t0n t0k)] 155 2 (by kernel_rfl) fun J => ?_
    obtain ⟨t83a, t83n, t83k, H_2, q40, h⟩ := h
    refine KE.se (one_ap 5 40 (by kernel_rfl) q40) (by kernel_rfl) ?_
    refine KE.run 1 [(2, .slice t2a t2n t2k), (3, .bool t3), (9, .pointer (some ⟨t9b, t9o, none⟩)), (83, .slice t83a t83n t83k), (84, .slice t1a t1n t1k)] 155 4 (by kernel_rfl) fun J => ?_
    obtain ⟨t85a, t85n, t85k, H_3, q41, h⟩ := h
    refine KE.se (one_ap 5 40 (by kernel_rfl) q41) (by kernel_rfl) ?_
    refine KE.run 2 [(9, .pointer (some ⟨t9b, t9o, none⟩)), (85, .slice t85a t85n t85k), (86, .slice t2a t2n t2k), (87, .bool t3)] 155 7 (by kernel_rfl) fun J => ?_
    obtain ⟨t88c0, t88c1, t88c2, t88c3, t88c4, t88c5, t88c6, H_4, q42, h⟩ := h
    refine KE.se (one_ca (by kernel_rfl) q42) (by kernel_rfl) ?_
    obtain ⟨t89c0, t89c1, t89c2, t89c3, t89c4, t89c5, t89c6, q43, h⟩ := h
    refine KE.rdF (one_ldA (by kernel_rfl) q43) (by kernel_rfl) ?_
    refine KE.run 2 [(91, .bool ((t88c0 == t89c0) && (((t88c1 == t89c1) && ((t88c2 == t89c2) && ((t88c3 == t89c3) && ((t88c4 == t89c4) && ((t88c5 == t89c5) && true))))) && ((t88c6 == t89c6) && true))))] 155 11 (by kernel_rfl) fun J => ?_
    by_cases c44 : ((t88c0 == t89c0) && (((t88c1 == t89c1) && ((t88c2 == t89c2) && ((t88c3 == t89c3) && ((t88c4 == t89c4) && ((t88c5 == t89c5) && true))))) && ((t88c6 == t89c6) && true))) = true
    · replace h := iteT c44 h
      refine KE.setV 91 (by kernel_rfl) (bT c44) ?_
      obtain ⟨t92, H_5, q45, h⟩ := h
      refine KE.se (one_ca (by kernel_rfl) q45) (by kernel_rfl) ?_
      refine KE.run 2 [(8, .bool t92)] 155 14 (by kernel_rfl) fun J => ?_
      obtain ⟨q46, q47, q48, q49, h⟩ := h
      refine KE.fin (H' := H_5) (by kernel_rfl) (rdsS (rfl) (rd_ok (Hs := [H_1, H_2, H_3, H_4]) (by kernel_rfl) (by kernel_rfl) ⟨one_ldA (by kernel_rfl) q46, ⟨one_ldA (by kernel_rfl) q47, ⟨one_ldA (by kernel_rfl) q48, ⟨one_ldA (by kernel_rfl) q49, trivial⟩⟩⟩⟩)) (by kernel_rfl) ?_
      refine KR.run 0 [(8, .bool t92)] 155 (s' := (.code (sub B [1, 1, 1, 0, 1, 0, 1, 0, 1, 1]) :: S6)) (by kernel_rfl) fun J => ?_
      exact KR.fin (by kernel_rfl) h
    · replace h := iteF c44 h
      refine KE.setV 91 (by kernel_rfl) (bF c44) ?_
      refine KE.no (Gc := H_4) (by kernel_rfl) (by kernel_rfl) (by kernel_rfl) ?_
      refine KE.run 2 [(8, .bool false)] 155 14 (by kernel_rfl) fun J => ?_
      obtain ⟨q50, q51, q52, q53, h⟩ := h
      refine KE.fin (H' := H_4) (by kernel_rfl) (rdsS (rfl) (rd_ok (Hs := [H_1, H_2, H_3, H_4]) (by kernel_rfl) (by kernel_rfl) ⟨one_ldA (by kernel_rfl) q50, ⟨one_ldA (by kernel_rfl) q51, ⟨one_ldA (by kernel_rfl) q52, ⟨one_ldA (by kernel_rfl) q53, trivial⟩⟩⟩⟩)) (by kernel_rfl) ?_
      refine KR.run 0 [(8, .bool false)] 155 (s' := (.code (sub B [1, 1, 1, 0, 1, 0, 1, 0, 1, 1]) :: S6)) (by kernel_rfl) fun J => ?_
      exact KR.fin (by kernel_rfl) h
theorem L2_step {t0a : Option Addr} {t0n : Nat} {t0k : Nat} {t2a : Option Addr} {t2n : Nat} {t2k : Nat} {t3 : Bool} {t105 : Bool} {H : Heap} {r : Value × Heap} (h :
    if t105 = true then
    (r = (.bool false, H))
    else
    (L3 (t2a) (t2n) (t2k) (t3) (t0a) (t0n) (t0k) (((t0n : Nat) : Int)) 0 H r)) :
    L2 t0a t0n t0k t2a t2n t2k t3 t105 H r := by
  intro J
  show KR _ _ _ (.code (sub B [1, 1, 1, 0, 1, 0, 1, 1, 1, 0, 0, 1]) :: S9) _ _ _
  by_cases c54 : t105 = true
  · replace h := iteT c54 h
    refine KR.br true (by kernel_rfl) (vB (bT c54)) ?_
    refine KR.run 4 [(8, .bool false)] 155 (s' := (.code (sub B [1, 1, 1, 0, 1, 0, 1, 1, 1, 0, 0, 1, 0, 1]) :: S9)) (by kernel_rfl) fun J => ?_
    exact KR.fin (by kernel_rfl) h
  · replace h := iteF c54 h
    refine KR.br false (by kernel_rfl) (vB (bF c54)) ?_
    exact KR.run 10 [(2, .slice t2a t2n t2k), (3, .bool t3), (106, .slice t0a t0n t0k), (107, .int .i64 ((t0n : Nat) : Int)), (108, .int .i64 0)] 155 (s' := (.lp (sub B [1, 1, 1, 0, 1, 0, 1, 1, 1, 0, 1, 0, 1, 0, 0]) :: S14)) (by kernel_rfl) h
theorem L3_step {t2a : Option Addr} {t2n : Nat} {t2k : Nat} {t3 : Bool} {t106a : Option Addr} {t106n : Nat} {t106k : Nat} {t107 : Int} {t108 : Int} {H : Heap} {r : Value × Heap} (h :
    if t108 < t107 then
    (∃ (t106ab t106ao : Nat), t106a = some ⟨t106ab, t106ao, none⟩ ∧
    ((0 : Int) ≤ t108 ∧ t108 < ((t106n : Nat) : Int) ∧
    (∃ (t111c0 : Int) (t111c1 : Int) (t111c2 : Int) (t111c3 : Int) (t111c4 : Int), ldAll H t106ab (t106ao + Int.toNat t108 * 5) [.int .i64 t111c0, .int .i64 t111c1, .int .i64 t111c2, .int .i64 t111c3, .int .i64 t111c4] ∧
    (∃ (H_1 : Heap), H_1 = H.push (.row [.int .i64 0, .int .i64 0, .int .i64 0, .int .i64 0, .int .i64 0] true) ∧
    (∃ (H_2 : Heap), stc H_1 H.next 0 [.int .i64 t111c0, .int .i64 t111c1, .int .i64 t111c2, .int .i64 t111c3, .int .i64 t111c4] = some H_2 ∧
    (L4 (t2a) (t2n) (t2k) (t3) (H.next) (0) (t106ab) (t106ao) (t106n) (t106k) (t107) (t108) (t2a) (t2n) (t2k) (((t2n : Nat) : Int)) 0 H_2 r))))))
    else
    (∃ (t148 : Bool) (H_3 : Heap), xC Try.prog good 12 [] H = some (.bool t148, H_3) ∧
    (r = (.bool t148, H_3)))) :
    L3 t2a t2n t2k t3 t106a t106n t106k t107 t108 H r := by
  intro J
  show KR _ _ _ (.lp (sub B [1, 1, 1, 0, 1, 0, 1, 1, 1, 0, 1, 0, 1, 0, 0]) :: S14) _ _ _
  refine KR.run 6 [(2, .slice t2a t2n t2k), (3, .bool t3), (106, .slice t106a t106n t106k), (107, .int .i64 t107), (108, .int .i64 t108), (109, .bool (decide (t108 < t107)))] 155 (s' := (.code (sub B [1, 1, 1, 0, 1, 0, 1, 1, 1, 0, 1, 0, 1, 0, 0, 1, 0]) :: S16)) (by kernel_rfl) fun J => ?_
  by_cases c55 : t108 < t107
  · replace h := iteT c55 h
    refine KR.br true (by kernel_rfl) (vB (dT c55)) ?_
    obtain ⟨t106ab, t106ao, rfl, h⟩ := h
    refine KR.run 5 [(2, .slice t2a t2n t2k), (3, .bool t3), (106, .slice (some ⟨t106ab, t106ao, none⟩) t106n t106k), (107, .int .i64 t107), (108, .int .i64 t108)] 155 (s' := (.reg (opsAt (sub B [1, 1, 1, 0, 1, 0, 1, 1, 1, 0, 1, 0, 1, 0, 0, 1, 1, 0, 0, 0])) [0, 1, 2, 3] :: S19)) (by kernel_rfl) fun J => ?_
    obtain ⟨q56, q56x, h⟩ := h
    refine KR.p (one_ix 5 t106ab t106ao (by kernel_rfl) q56 q56x) ?_
    obtain ⟨t111c0, t111c1, t111c2, t111c3, t111c4, q57, h⟩ := h
    refine KR.rd (one_ldA (by kernel_rfl) q57) ?_
    obtain ⟨H_1, q58, h⟩ := h
    refine KR.mk (w := pRow [.int .i64 0, .int .i64 0, .int .i64 0, .int .i64 0, .int .i64 0]) (one_al (by kernel_rfl)) q58 ?_
    obtain ⟨H_2, q59, h⟩ := h
    refine KR.se (one_st (by kernel_rfl) q59) ?_
    exact KR.run 9 [(2, .slice t2a t2n t2k), (3, .bool t3), (11, .pointer (some ⟨H.next, 0, none⟩)), (106, .slice (some ⟨t106ab, t106ao, none⟩) t106n t106k), (107, .int .i64 t107), (108, .int .i64 t108), (112, .slice t2a t2n t2k), (113, .int .i64 ((t2n : Nat) : Int)), (114, .int .i64 0)] 155 (s' := (.lp (sub B [1, 1, 1, 0, 1, 0, 1, 1, 1, 0, 1, 0, 1, 0, 0, 1, 1, 0, 0, 1, 1, 0, 0]) :: S20)) (by kernel_rfl) h
  · replace h := iteF c55 h
    refine KR.br false (by kernel_rfl) (vB (dF c55)) ?_
    refine KR.run 3 [] 155 (s' := (.reg (opsAt (sub B [1, 1, 1, 0, 1, 0, 1, 1, 1, 0, 1, 1, 0])) [0, 1] :: S21)) (by kernel_rfl) fun J => ?_
    obtain ⟨t148, H_3, q60, h⟩ := h
    refine KR.se (one_ca (by kernel_rfl) q60) ?_
    refine KR.run 2 [(8, .bool t148)] 155 (s' := (.code (sub B [1, 1, 1, 0, 1, 0, 1, 1, 1, 0, 1, 1, 1]) :: S6)) (by kernel_rfl) fun J => ?_
    exact KR.fin (by kernel_rfl) h
theorem L4_step {t2a : Option Addr} {t2n : Nat} {t2k : Nat} {t3 : Bool} {t11b : Nat} {t11o : Nat} {t106b : Nat} {t106o : Nat} {t106n : Nat} {t106k : Nat} {t107 : Int} {t108 : Int} {t112a : Option Addr} {t112n : Nat} {t112k : Nat} {t113 : Int} {t114 : Int} {H : Heap} {r : Value × Heap} (h :
    if t114 < t113 then
    (∃ (t112ab t112ao : Nat), t112a = some ⟨t112ab, t112ao, none⟩ ∧
    ((0 : Int) ≤ t114 ∧ t114 < ((t112n : Nat) : Int) ∧
    (∃ (t117 : Int), ldc H t112ab (t112ao + Int.toNat t114 * 1) = some (.int .i64 t117) ∧
    (∃ (t118c0 : Int) (t118c1 : Int) (t118c2 : Int) (t118c3 : Int) (t118c4 : Int), ldAll H t11b t11o [.int .i64 t118c0, .int .i64 t118c1, .int .i64 t118c2, .int .i64 t118c3, .int .i64 t118c4] ∧
    (∃ (t119 : Bool) (H_1 : Heap), xC Try.prog good 15 [.agg #[.int .i64 t118c0, .int .i64 t118c1, .int .i64 t118c2, .int .i64 t118c3, .int .i64 t118c4]] H = some (.bool t119, H_1) ∧
    (if t119 = true then
    (∃ (t122 : Int), ldc H_1 t11b (t11o + 3) = some (.int .i64 t122) ∧
    (if (iand .i64 t122 1) = 0 then
    (L5 (t2a) (t2n) (t2k) (t3) (t11b) (t11o) (t106b) (t106o) (t106n) (t106k) (t107) (t108) (t112ab) (t112ao) (t112n) (t112k) (t113) (t114) (false) H_1 r)
    else
    (∃ (t128 : Int), ldc H_1 t11b (t11o + 3) = some (.int .i64 t128) ∧
    (if (iand .i64 t128 4) = 0 then
    (∃ (t137 : Int), ldc H_1 t11b (t11o + 4) = some (.int .i64 t137) ∧
    (if t137 = 64 then
    (L5 (t2a) (t2n) (t2k) (t3) (t11b) (t11o) (t106b) (t106o) (t106n) (t106k) (t107) (t108) (t112ab) (t112ao) (t112n) (t112k) (t113) (t114) (true) H_1 r)
    else
    (∃ (t141 : Int), ldc H_1 t11b (t11o + 4) = some (.int .i64 t141) ∧
    (L5 (t2a) (t2n) (t2k) (t3) (t11b) (t11o) (t106b) (t106o) (t106n) (t106k) (t107) (t108) (t112ab) (t112ao) (t112n) (t112k) (t113) (t114) ((t141 == t117)) H_1 r))))
    else
    (if t3 = true then
    (∃ (t137_1 : Int), ldc H_1 t11b (t11o + 4) = some (.int .i64 t137_1) ∧
    (if t137_1 = 64 then
    (L5 (t2a) (t2n) (t2k) (t3) (t11b) (t11o) (t106b) (t106o) (t106n) (t106k) (t107) (t108) (t112ab) (t112ao) (t112n) (t112k) (t113) (t114) (true) H_1 r)
    else
    (∃ (t141_1 : Int), ldc H_1 t11b (t11o + 4) = some (.int .i64 t141_1) ∧
    (L5 (t2a) (t2n) (t2k) (t3) (t11b) (t11o) (t106b) (t106o) (t106n) (t106k) (t107) (t108) (t112ab) (t112ao) (t112n) (t112k) (t113) (t114) ((t141_1 == t117)) H_1 r))))
    else
    (L5 (t2a) (t2n) (t2k) (t3) (t11b) (t11o) (t106b) (t106o) (t106n) (t106k) (t107) (t108) (t112ab) (t112ao) (t112n) (t112k) (t113) (t114) (false) H_1 r))))))
    else
    (L5 (t2a) (t2n) (t2k) (t3) (t11b) (t11o) (t106b) (t106o) (t106n) (t106k) (t107) (t108) (t112ab) (t112ao) (t112n) (t112k) (t113) (t114) (false) H_1 r)))))))
    else
    (L3 (t2a) (t2n) (t2k) (t3) ((some ⟨t106b, t106o, none⟩)) (t106n) (t106k) (t107) ((IntKind.wrap .i64 (t108 + 1))) H r)) :
    L4 t2a t2n t2k t3 t11b t11o t106b t106o t106n t106k t107 t108 t112a t112n t112k t113 t114 H r := by
  intro J
  show KR _ _ _ (.lp (sub B [1, 1, 1, 0, 1, 0, 1, 1, 1, 0, 1, 0, 1, 0, 0, 1, 1, 0, 0, 1, 1, 0, 0]) :: S20) _ _ _
  refine KR.run 6 [(2, .slice t2a t2n t2k), (3, .bool t3), (11, .pointer (some ⟨t11b, t11o, none⟩)), (106, .slice (some ⟨t106b, t106o, none⟩) t106n t106k), (107, .int .i64 t107), (108, .int .i64 t108), (112, .slice t112a t112n t112k), (113, .int .i64 t113), (114, .int .i64 t114), (115, .bool (decide (t114 < t113)))] 155 (s' := (.code (sub B [1, 1, 1, 0, 1, 0, 1, 1, 1, 0, 1, 0, 1, 0, 0, 1, 1, 0, 0, 1, 1, 0, 0, 1, 0]) :: S23)) (by kernel_rfl) fun J => ?_
  by_cases c61 : t114 < t113
  · replace h := iteT c61 h
    refine KR.br true (by kernel_rfl) (vB (dT c61)) ?_
    obtain ⟨t112ab, t112ao, rfl, h⟩ := h
    refine KR.run 5 [(2, .slice t2a t2n t2k), (3, .bool t3), (11, .pointer (some ⟨t11b, t11o, none⟩)), (106, .slice (some ⟨t106b, t106o, none⟩) t106n t106k), (107, .int .i64 t107), (108, .int .i64 t108), (112, .slice (some ⟨t112ab, t112ao, none⟩) t112n t112k), (113, .int .i64 t113), (114, .int .i64 t114)] 155 (s' := (.reg (opsAt (sub B [1, 1, 1, 0, 1, 0, 1, 1, 1, 0, 1, 0, 1, 0, 0, 1, 1, 0, 0, 1, 1, 0, 0, 1, 1, 0, 0, 0])) [0, 1, 2] :: S26)) (by kernel_rfl) fun J => ?_
    obtain ⟨q62, q62x, h⟩ := h
    refine KR.p (one_ix 1 t112ab t112ao (by kernel_rfl) q62 q62x) ?_
    obtain ⟨t117, q63, h⟩ := h
    refine KR.rd (one_ld (by kernel_rfl) q63) ?_
    refine KR.run 4 [(2, .slice t2a t2n t2k), (3, .bool t3), (11, .pointer (some ⟨t11b, t11o, none⟩)), (13, .int .i64 t117), (106, .slice (some ⟨t106b, t106o, none⟩) t106n t106k), (107, .int .i64 t107), (108, .int .i64 t108), (112, .slice (some ⟨t112ab, t112ao, none⟩) t112n t112k), (113, .int .i64 t113), (114, .int .i64 t114)] 155 (s' := (.reg (opsAt (sub B [1, 1, 1, 0, 1, 0, 1, 1, 1, 0, 1, 0, 1, 0, 0, 1, 1, 0, 0, 1, 1, 0, 0, 1, 1, 0, 0, 1, 0])) [0, 1, 2, 3, 4, 5, 6, 7, 8, 9, 10, 11, 12, 13, 14, 15, 16, 17, 18, 19, 20, 21, 22, 23, 24, 25, 26, 27] :: S27)) (by kernel_rfl) fun J => ?_
    obtain ⟨t118c0, t118c1, t118c2, t118c3, t118c4, q64, h⟩ := h
    refine KR.rd (one_ldA (by kernel_rfl) q64) ?_
    obtain ⟨t119, H_1, q65, h⟩ := h
    refine KR.se (one_ca (by kernel_rfl) q65) ?_
    refine KR.run 1 [(2, .slice t2a t2n t2k), (3, .bool t3), (11, .pointer (some ⟨t11b, t11o, none⟩)), (13, .int .i64 t117), (106, .slice (some ⟨t106b, t106o, none⟩) t106n t106k), (107, .int .i64 t107), (108, .int .i64 t108), (112, .slice (some ⟨t112ab, t112ao, none⟩) t112n t112k), (113, .int .i64 t113), (114, .int .i64 t114), (120, .bool t119)] 155 (s' := (.reg (opsAt (sub B [1, 1, 1, 0, 1, 0, 1, 1, 1, 0, 1, 0, 1, 0, 0, 1, 1, 0, 0, 1, 1, 0, 0, 1, 1, 0, 0, 1, 0])) [3, 4, 5, 6, 7, 8, 9, 10, 11, 12, 13, 14, 15, 16, 17, 18, 19, 20, 21, 22, 23, 24, 25, 26, 27] :: S27)) (by kernel_rfl) fun J => ?_
    by_cases c66 : t119 = true
    · replace h := iteT c66 h
      refine KR.setV 120 (by kernel_rfl) (bT c66) ?_
      refine KR.run 1 [(2, .slice t2a t2n t2k), (3, .bool t3), (11, .pointer (some ⟨t11b, t11o, none⟩)), (13, .int .i64 t117), (106, .slice (some ⟨t106b, t106o, none⟩) t106n t106k), (107, .int .i64 t107), (108, .int .i64 t108), (112, .slice (some ⟨t112ab, t112ao, none⟩) t112n t112k), (113, .int .i64 t113), (114, .int .i64 t114), (120, .bool true), (121, .pointer (some ⟨t11b, (t11o + 3), none⟩))] 155 (s' := (.reg (opsAt (sub B [1, 1, 1, 0, 1, 0, 1, 1, 1, 0, 1, 0, 1, 0, 0, 1, 1, 0, 0, 1, 1, 0, 0, 1, 1, 0, 0, 1, 0])) [4, 5, 6, 7, 8, 9, 10, 11, 12, 13, 14, 15, 16, 17, 18, 19, 20, 21, 22, 23, 24, 25, 26, 27] :: S27)) (by kernel_rfl) fun J => ?_
      obtain ⟨t122, q67, h⟩ := h
      refine KR.rd (one_ld (by kernel_rfl) q67) ?_
      refine KR.run 4 [(2, .slice t2a t2n t2k), (3, .bool t3), (11, .pointer (some ⟨t11b, t11o, none⟩)), (13, .int .i64 t117), (106, .slice (some ⟨t106b, t106o, none⟩) t106n t106k), (107, .int .i64 t107), (108, .int .i64 t108), (112, .slice (some ⟨t112ab, t112ao, none⟩) t112n t112k), (113, .int .i64 t113), (114, .int .i64 t114), (126, .bool (!((iand .i64 t122 1) == 0)))] 155 (s' := (.reg (opsAt (sub B [1, 1, 1, 0, 1, 0, 1, 1, 1, 0, 1, 0, 1, 0, 0, 1, 1, 0, 0, 1, 1, 0, 0, 1, 1, 0, 0, 1, 0])) [9, 10, 11, 12, 13, 14, 15, 16, 17, 18, 19, 20, 21, 22, 23, 24, 25, 26, 27] :: S27)) (by kernel_rfl) fun J => ?_
      by_cases c68 : (iand .i64 t122 1) = 0
      · replace h := iteT c68 h
        refine KR.setV 126 (by kernel_rfl) (nB (eT c68)) ?_
        exact KR.run 20 [(2, .slice t2a t2n t2k), (3, .bool t3), (11, .pointer (some ⟨t11b, t11o, none⟩)), (106, .slice (some ⟨t106b, t106o, none⟩) t106n t106k), (107, .int .i64 t107), (108, .int .i64 t108), (112, .slice (some ⟨t112ab, t112ao, none⟩) t112n t112k), (113, .int .i64 t113), (114, .int .i64 t114), (145, .bool false)] 155 (s' := (.code (sub B [1, 1, 1, 0, 1, 0, 1, 1, 1, 0, 1, 0, 1, 0, 0, 1, 1, 0, 0, 1, 1, 0, 0, 1, 1, 0, 0, 1, 1]) :: S25)) (by kernel_rfl) h
      · replace h := iteF c68 h
        refine KR.setV 126 (by kernel_rfl) (nB (eF c68)) ?_
        refine KR.run 1 [(2, .slice t2a t2n t2k), (3, .bool t3), (11, .pointer (some ⟨t11b, t11o, none⟩)), (13, .int .i64 t117), (106, .slice (some ⟨t106b, t106o, none⟩) t106n t106k), (107, .int .i64 t107), (108, .int .i64 t108), (112, .slice (some ⟨t112ab, t112ao, none⟩) t112n t112k), (113, .int .i64 t113), (114, .int .i64 t114), (126, .bool true), (127, .pointer (some ⟨t11b, (t11o + 3), none⟩))] 155 (s' := (.reg (opsAt (sub B [1, 1, 1, 0, 1, 0, 1, 1, 1, 0, 1, 0, 1, 0, 0, 1, 1, 0, 0, 1, 1, 0, 0, 1, 1, 0, 0, 1, 0])) [10, 11, 12, 13, 14, 15, 16, 17, 18, 19, 20, 21, 22, 23, 24, 25, 26, 27] :: S27)) (by kernel_rfl) fun J => ?_
        obtain ⟨t128, q69, h⟩ := h
        refine KR.rd (one_ld (by kernel_rfl) q69) ?_
        refine KR.run 3 [(2, .slice t2a t2n t2k), (3, .bool t3), (11, .pointer (some ⟨t11b, t11o, none⟩)), (13, .int .i64 t117), (106, .slice (some ⟨t106b, t106o, none⟩) t106n t106k), (107, .int .i64 t107), (108, .int .i64 t108), (112, .slice (some ⟨t112ab, t112ao, none⟩) t112n t112k), (113, .int .i64 t113), (114, .int .i64 t114), (126, .bool true), (131, .bool ((iand .i64 t128 4) == 0))] 155 (s' := (.reg (opsAt (sub B [1, 1, 1, 0, 1, 0, 1, 1, 1, 0, 1, 0, 1, 0, 0, 1, 1, 0, 0, 1, 1, 0, 0, 1, 1, 0, 0, 1, 0])) [14, 15, 16, 17, 18, 19, 20, 21, 22, 23, 24, 25, 26, 27] :: S27)) (by kernel_rfl) fun J => ?_
        by_cases c70 : (iand .i64 t128 4) = 0
        · replace h := iteT c70 h
          refine KR.setV 131 (by kernel_rfl) (eT c70) ?_
          refine KR.run 5 [(2, .slice t2a t2n t2k), (3, .bool t3), (11, .pointer (some ⟨t11b, t11o, none⟩)), (13, .int .i64 t117), (106, .slice (some ⟨t106b, t106o, none⟩) t106n t106k), (107, .int .i64 t107), (108, .int .i64 t108), (112, .slice (some ⟨t112ab, t112ao, none⟩) t112n t112k), (113, .int .i64 t113), (114, .int .i64 t114), (135, .bool true), (136, .pointer (some ⟨t11b, (t11o + 4), none⟩))] 155 (s' := (.reg (opsAt (sub B [1, 1, 1, 0, 1, 0, 1, 1, 1, 0, 1, 0, 1, 0, 0, 1, 1, 0, 0, 1, 1, 0, 0, 1, 1, 0, 0, 1, 0])) [19, 20, 21, 22, 23, 24, 25, 26, 27] :: S27)) (by kernel_rfl) fun J => ?_
          obtain ⟨t137, q71, h⟩ := h
          refine KR.rd (one_ld (by kernel_rfl) q71) ?_
          refine KR.run 2 [(2, .slice t2a t2n t2k), (3, .bool t3), (11, .pointer (some ⟨t11b, t11o, none⟩)), (13, .int .i64 t117), (106, .slice (some ⟨t106b, t106o, none⟩) t106n t106k), (107, .int .i64 t107), (108, .int .i64 t108), (112, .slice (some ⟨t112ab, t112ao, none⟩) t112n t112k), (113, .int .i64 t113), (114, .int .i64 t114), (135, .bool true), (139, .bool (t137 == 64))] 155 (s' := (.reg (opsAt (sub B [1, 1, 1, 0, 1, 0, 1, 1, 1, 0, 1, 0, 1, 0, 0, 1, 1, 0, 0, 1, 1, 0, 0, 1, 1, 0, 0, 1, 0])) [22, 23, 24, 25, 26, 27] :: S27)) (by kernel_rfl) fun J => ?_
          by_cases c72 : t137 = 64
          · replace h := iteT c72 h
            refine KR.setV 139 (by kernel_rfl) (eT c72) ?_
            exact KR.run 7 [(2, .slice t2a t2n t2k), (3, .bool t3), (11, .pointer (some ⟨t11b, t11o, none⟩)), (106, .slice (some ⟨t106b, t106o, none⟩) t106n t106k), (107, .int .i64 t107), (108, .int .i64 t108), (112, .slice (some ⟨t112ab, t112ao, none⟩) t112n t112k), (113, .int .i64 t113), (114, .int .i64 t114), (145, .bool true)] 155 (s' := (.code (sub B [1, 1, 1, 0, 1, 0, 1, 1, 1, 0, 1, 0, 1, 0, 0, 1, 1, 0, 0, 1, 1, 0, 0, 1, 1, 0, 0, 1, 1]) :: S25)) (by kernel_rfl) h
          · replace h := iteF c72 h
            refine KR.setV 139 (by kernel_rfl) (eF c72) ?_
            refine KR.run 1 [(2, .slice t2a t2n t2k), (3, .bool t3), (11, .pointer (some ⟨t11b, t11o, none⟩)), (13, .int .i64 t117), (106, .slice (some ⟨t106b, t106o, none⟩) t106n t106k), (107, .int .i64 t107), (108, .int .i64 t108), (112, .slice (some ⟨t112ab, t112ao, none⟩) t112n t112k), (113, .int .i64 t113), (114, .int .i64 t114), (135, .bool true), (139, .bool false), (140, .pointer (some ⟨t11b, (t11o + 4), none⟩))] 155 (s' := (.reg (opsAt (sub B [1, 1, 1, 0, 1, 0, 1, 1, 1, 0, 1, 0, 1, 0, 0, 1, 1, 0, 0, 1, 1, 0, 0, 1, 1, 0, 0, 1, 0])) [23, 24, 25, 26, 27] :: S27)) (by kernel_rfl) fun J => ?_
            obtain ⟨t141, q73, h⟩ := h
            refine KR.rd (one_ld (by kernel_rfl) q73) ?_
            exact KR.run 5 [(2, .slice t2a t2n t2k), (3, .bool t3), (11, .pointer (some ⟨t11b, t11o, none⟩)), (106, .slice (some ⟨t106b, t106o, none⟩) t106n t106k), (107, .int .i64 t107), (108, .int .i64 t108), (112, .slice (some ⟨t112ab, t112ao, none⟩) t112n t112k), (113, .int .i64 t113), (114, .int .i64 t114), (145, .bool (t141 == t117))] 155 (s' := (.code (sub B [1, 1, 1, 0, 1, 0, 1, 1, 1, 0, 1, 0, 1, 0, 0, 1, 1, 0, 0, 1, 1, 0, 0, 1, 1, 0, 0, 1, 1]) :: S25)) (by kernel_rfl) h
        · replace h := iteF c70 h
          refine KR.setV 131 (by kernel_rfl) (eF c70) ?_
          refine KR.run 4 [(2, .slice t2a t2n t2k), (3, .bool t3), (11, .pointer (some ⟨t11b, t11o, none⟩)), (13, .int .i64 t117), (106, .slice (some ⟨t106b, t106o, none⟩) t106n t106k), (107, .int .i64 t107), (108, .int .i64 t108), (112, .slice (some ⟨t112ab, t112ao, none⟩) t112n t112k), (113, .int .i64 t113), (114, .int .i64 t114), (135, .bool t3)] 155 (s' := (.reg (opsAt (sub B [1, 1, 1, 0, 1, 0, 1, 1, 1, 0, 1, 0, 1, 0, 0, 1, 1, 0, 0, 1, 1, 0, 0, 1, 1, 0, 0, 1, 0])) [18, 19, 20, 21, 22, 23, 24, 25, 26, 27] :: S27)) (by kernel_rfl) fun J => ?_
          by_cases c74 : t3 = true
          · replace h := iteT c74 h
            refine KR.setV 135 (by kernel_rfl) (bT c74) ?_
            refine KR.run 1 [(2, .slice t2a t2n t2k), (3, .bool t3), (11, .pointer (some ⟨t11b, t11o, none⟩)), (13, .int .i64 t117), (106, .slice (some ⟨t106b, t106o, none⟩) t106n t106k), (107, .int .i64 t107), (108, .int .i64 t108), (112, .slice (some ⟨t112ab, t112ao, none⟩) t112n t112k), (113, .int .i64 t113), (114, .int .i64 t114), (135, .bool true), (136, .pointer (some ⟨t11b, (t11o + 4), none⟩))] 155 (s' := (.reg (opsAt (sub B [1, 1, 1, 0, 1, 0, 1, 1, 1, 0, 1, 0, 1, 0, 0, 1, 1, 0, 0, 1, 1, 0, 0, 1, 1, 0, 0, 1, 0])) [19, 20, 21, 22, 23, 24, 25, 26, 27] :: S27)) (by kernel_rfl) fun J => ?_
            obtain ⟨t137_1, q75, h⟩ := h
            refine KR.rd (one_ld (by kernel_rfl) q75) ?_
            refine KR.run 2 [(2, .slice t2a t2n t2k), (3, .bool t3), (11, .pointer (some ⟨t11b, t11o, none⟩)), (13, .int .i64 t117), (106, .slice (some ⟨t106b, t106o, none⟩) t106n t106k), (107, .int .i64 t107), (108, .int .i64 t108), (112, .slice (some ⟨t112ab, t112ao, none⟩) t112n t112k), (113, .int .i64 t113), (114, .int .i64 t114), (135, .bool true), (139, .bool (t137_1 == 64))] 155 (s' := (.reg (opsAt (sub B [1, 1, 1, 0, 1, 0, 1, 1, 1, 0, 1, 0, 1, 0, 0, 1, 1, 0, 0, 1, 1, 0, 0, 1, 1, 0, 0, 1, 0])) [22, 23, 24, 25, 26, 27] :: S27)) (by kernel_rfl) fun J => ?_
            by_cases c76 : t137_1 = 64
            · replace h := iteT c76 h
              refine KR.setV 139 (by kernel_rfl) (eT c76) ?_
              exact KR.run 7 [(2, .slice t2a t2n t2k), (3, .bool t3), (11, .pointer (some ⟨t11b, t11o, none⟩)), (106, .slice (some ⟨t106b, t106o, none⟩) t106n t106k), (107, .int .i64 t107), (108, .int .i64 t108), (112, .slice (some ⟨t112ab, t112ao, none⟩) t112n t112k), (113, .int .i64 t113), (114, .int .i64 t114), (145, .bool true)] 155 (s' := (.code (sub B [1, 1, 1, 0, 1, 0, 1, 1, 1, 0, 1, 0, 1, 0, 0, 1, 1, 0, 0, 1, 1, 0, 0, 1, 1, 0, 0, 1, 1]) :: S25)) (by kernel_rfl) h
            · replace h := iteF c76 h
              refine KR.setV 139 (by kernel_rfl) (eF c76) ?_
              refine KR.run 1 [(2, .slice t2a t2n t2k), (3, .bool t3), (11, .pointer (some ⟨t11b, t11o, none⟩)), (13, .int .i64 t117), (106, .slice (some ⟨t106b, t106o, none⟩) t106n t106k), (107, .int .i64 t107), (108, .int .i64 t108), (112, .slice (some ⟨t112ab, t112ao, none⟩) t112n t112k), (113, .int .i64 t113), (114, .int .i64 t114), (135, .bool true), (139, .bool false), (140, .pointer (some ⟨t11b, (t11o + 4), none⟩))] 155 (s' := (.reg (opsAt (sub B [1, 1, 1, 0, 1, 0, 1, 1, 1, 0, 1, 0, 1, 0, 0, 1, 1, 0, 0, 1, 1, 0, 0, 1, 1, 0, 0, 1, 0])) [23, 24, 25, 26, 27] :: S27)) (by kernel_rfl) fun J => ?_
              obtain ⟨t141_1, q77, h⟩ := h
              refine KR.rd (one_ld (by kernel_rfl) q77) ?_
              exact KR.run 5 [(2, .slice t2a t2n t2k), (3, .bool t3), (11, .pointer (some ⟨t11b, t11o, none⟩)), (106, .slice (some ⟨t106b, t106o, none⟩) t106n t106k), (107, .int .i64 t107), (108, .int .i64 t108), (112, .slice (some ⟨t112ab, t112ao, none⟩) t112n t112k), (113, .int .i64 t113), (114, .int .i64 t114), (145, .bool (t141_1 == t117))] 155 (s' := (.code (sub B [1, 1, 1, 0, 1, 0, 1, 1, 1, 0, 1, 0, 1, 0, 0, 1, 1, 0, 0, 1, 1, 0, 0, 1, 1, 0, 0, 1, 1]) :: S25)) (by kernel_rfl) h
          · replace h := iteF c74 h
            refine KR.setV 135 (by kernel_rfl) (bF c74) ?_
            exact KR.run 11 [(2, .slice t2a t2n t2k), (3, .bool t3), (11, .pointer (some ⟨t11b, t11o, none⟩)), (106, .slice (some ⟨t106b, t106o, none⟩) t106n t106k), (107, .int .i64 t107), (108, .int .i64 t108), (112, .slice (some ⟨t112ab, t112ao, none⟩) t112n t112k), (113, .int .i64 t113), (114, .int .i64 t114), (145, .bool false)] 155 (s' := (.code (sub B [1, 1, 1, 0, 1, 0, 1, 1, 1, 0, 1, 0, 1, 0, 0, 1, 1, 0, 0, 1, 1, 0, 0, 1, 1, 0, 0, 1, 1]) :: S25)) (by kernel_rfl) h
    · replace h := iteF c66 h
      refine KR.setV 120 (by kernel_rfl) (bF c66) ?_
      exact KR.run 26 [(2, .slice t2a t2n t2k), (3, .bool t3), (11, .pointer (some ⟨t11b, t11o, none⟩)), (106, .slice (some ⟨t106b, t106o, none⟩) t106n t106k), (107, .int .i64 t107), (108, .int .i64 t108), (112, .slice (some ⟨t112ab, t112ao, none⟩) t112n t112k), (113, .int .i64 t113), (114, .int .i64 t114), (145, .bool false)] 155 (s' := (.code (sub B [1, 1, 1, 0, 1, 0, 1, 1, 1, 0, 1, 0, 1, 0, 0, 1, 1, 0, 0, 1, 1, 0, 0, 1, 1, 0, 0, 1, 1]) :: S25)) (by kernel_rfl) h
  · replace h := iteF c61 h
    refine KR.br false (by kernel_rfl) (vB (dF c61)) ?_
    exact KR.run 6 [(2, .slice t2a t2n t2k), (3, .bool t3), (106, .slice (some ⟨t106b, t106o, none⟩) t106n t106k), (107, .int .i64 t107), (108, .int .i64 (IntKind.wrap .i64 (t108 + 1)))] 155 (s' := (.lp (sub B [1, 1, 1, 0, 1, 0, 1, 1, 1, 0, 1, 0, 1, 0, 0]) :: S14)) (by kernel_rfl) h
theorem L5_step {t2a : Option Addr} {t2n : Nat} {t2k : Nat} {t3 : Bool} {t11b : Nat} {t11o : Nat} {t106b : Nat} {t106o : Nat} {t106n : Nat} {t106k : Nat} {t107 : Int} {t108 : Int} {t112b : Nat} {t112o : Nat} {t112n : Nat} {t112k : Nat} {t113 : Int} {t114 : Int} {t145 : Bool} {H : Heap} {r : Value × Heap} (h :
    if t145 = true then
    (r = (.bool false, H))
    else
    (L4 (t2a) (t2n) (t2k) (t3) (t11b) (t11o) (t106b) (t106o) (t106n) (t106k) (t107) (t108) ((some ⟨t112b, t112o, none⟩)) (t112n) (t112k) (t113) ((IntKind.wrap .i64 (t114 + 1))) H r)) :
    L5 t2a t2n t2k t3 t11b t11o t106b t106o t106n t106k t107 t108 t112b t112o t112n t112k t113 t114 t145 H r := by
  intro J
  show KR _ _ _ (.code (sub B [1, 1, 1, 0, 1, 0, 1, 1, 1, 0, 1, 0, 1, 0, 0, 1, 1, 0, 0, 1, 1, 0, 0, 1, 1, 0, 0, 1, 1]) :: S25) _ _ _
  by_cases c78 : t145 = true
  · replace h := iteT c78 h
    refine KR.br true (by kernel_rfl) (vB (bT c78)) ?_
    refine KR.run 4 [(8, .bool false)] 155 (s' := (.code (sub B [1, 1, 1, 0, 1, 0, 1, 1, 1, 0, 1, 0, 1, 0, 0, 1, 1, 0, 0, 1, 1, 0, 0, 1, 1, 0, 0, 1, 1, 0, 1]) :: S25)) (by kernel_rfl) fun J => ?_
    exact KR.fin (by kernel_rfl) h
  · replace h := iteF c78 h
    refine KR.br false (by kernel_rfl) (vB (bF c78)) ?_
    exact KR.run 6 [(2, .slice t2a t2n t2k), (3, .bool t3), (11, .pointer (some ⟨t11b, t11o, none⟩)), (106, .slice (some ⟨t106b, t106o, none⟩) t106n t106k), (107, .int .i64 t107), (108, .int .i64 t108), (112, .slice (some ⟨t112b, t112o, none⟩) t112n t112k), (113, .int .i64 t113), (114, .int .i64 (IntKind.wrap .i64 (t114 + 1)))] 155 (s' := (.lp (sub B [1, 1, 1, 0, 1, 0, 1, 1, 1, 0, 1, 0, 1, 0, 0, 1, 1, 0, 0, 1, 1, 0, 0]) :: S20)) (by kernel_rfl) h
theorem call {a0a : Option Addr} {a0n : Nat} {a0k : Nat} {a1a : Option Addr} {a1n : Nat} {a1k : Nat} {a2a : Option Addr} {a2n : Nat} {a2k : Nat} {a3 : Bool} {H : Heap} {r : Value × Heap} (h :
    if ((a0n : Nat) : Int) > 100 then
    (L0 (a0a) (a0n) (a0k) (a1a) (a1n) (a1k) (a2a) (a2n) (a2k) (a3) (true) H r)
    else
    (if ((a2n : Nat) : Int) > 100 then
    (L0 (a0a) (a0n) (a0k) (a1a) (a1n) (a1k) (a2a) (a2n) (a2k) (a3) (true) H r)
    else
    (L0 (a0a) (a0n) (a0k) (a1a) (a1n) (a1k) (a2a) (a2n) (a2k) (a3) ((decide (((a1n : Nat) : Int) > 100))) H r))) :
    xC Try.prog good 4 [.slice a0a a0n a0k, .slice a1a a1n a1k, .slice a2a a2n a2k, .bool a3] H = some r := by
  refine KR.enter (fn := Try.f4) (c := B) (by kernel_rfl) (by kernel_rfl) ?_
  refine KR.run 11 [(0, .slice a0a a0n a0k), (1, .slice a1a a1n a1k), (2, .slice a2a a2n a2k), (3, .bool a3), (17, .bool (decide (((a0n : Nat) : Int) > 100)))] 155 (s' := (.reg (opsAt (sub B [1, 0, 0])) [4, 5, 6, 7, 8, 9, 10, 11, 12] :: S1)) (by kernel_rfl) fun J => ?_
  by_cases c1 : ((a0n : Nat) : Int) > 100
  · replace h := iteT c1 h
    refine KR.setV 17 (by kernel_rfl) (dT c1) ?_
    exact KR.run 10 [(0, .slice a0a a0n a0k), (1, .slice a1a a1n a1k), (2, .slice a2a a2n a2k), (3, .bool a3), (26, .bool true)] 155 (s' := (.code (sub B [1, 0, 1]) :: S0)) (by kernel_rfl) h
  · replace h := iteF c1 h
    refine KR.setV 17 (by kernel_rfl) (dF c1) ?_
    refine KR.run 5 [(0, .slice a0a a0n a0k), (1, .slice a1a a1n a1k), (2, .slice a2a a2n a2k), (3, .bool a3), (22, .bool (decide (((a2n : Nat) : Int) > 100)))] 155 (s' := (.reg (opsAt (sub B [1, 0, 0])) [9, 10, 11, 12] :: S1)) (by kernel_rfl) fun J => ?_
    by_cases c2 : ((a2n : Nat) : Int) > 100
    · replace h := iteT c2 h
      refine KR.setV 22 (by kernel_rfl) (dT c2) ?_
      exact KR.run 5 [(0, .slice a0a a0n a0k), (1, .slice a1a a1n a1k), (2, .slice a2a a2n a2k), (3, .bool a3), (26, .bool true)] 155 (s' := (.code (sub B [1, 0, 1]) :: S0)) (by kernel_rfl) h
    · replace h := iteF c2 h
      refine KR.setV 22 (by kernel_rfl) (dF c2) ?_
      exact KR.run 5 [(0, .slice a0a a0n a0k), (1, .slice a1a a1n a1k), (2, .slice a2a a2n a2k), (3, .bool a3), (26, .bool (decide (((a1n : Nat) : Int) > 100)))] 155 (s' := (.code (sub B [1, 0, 1]) :: S0)) (by kernel_rfl) h
end F4
end Go.X
