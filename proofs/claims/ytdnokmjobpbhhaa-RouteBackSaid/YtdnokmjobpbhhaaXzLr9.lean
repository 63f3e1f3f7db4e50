/- The laws RouteOne, RouteBack. -/
import Derived.Test.YtdnokmjobpbhhaaXzLr8
import Derived.Test.YtdnokmjobpbhhaaXzTcO
set_option linter.unusedVariables false
set_option linter.unusedSimpArgs false
set_option maxRecDepth 20000
namespace Go.X
open Go Go.RowKit Go.Proofs
namespace F67
theorem l0 {H : Heap} {a0 a1 : Option Addr} {n k0 k1 : Nat} {xs ys : List Int} (h0 : Ints .i64 H a0 n k0 xs) (h1 : Ints .i64 H a1 n k1 ys) (hn : n ≤ 140737488355328) : ∀ (d j : Nat), j + d = n → L0 a0 n k0 a1 n k1 (n : Int) (j : Int) H (.bool (decide (xs.drop j = ys.drop j)), H) := by
  have hl := h0.ln
  have hl1 := h1.ln
  intro d
  induction d with
  | zero =>
    intro j hj
    refine L0_step ?_
    rw [if_neg (by omega), List.drop_eq_nil_of_le (by omega), List.drop_eq_nil_of_le (by omega)]
    rfl
  | succ d ih =>
    intro j hj
    obtain ⟨b0, o0, rfl⟩ := h0.at (by omega)
    obtain ⟨b1, o1, rfl⟩ := h1.at (by omega)
    have hx := getD_some (xs := xs) (j := j) (by omega)
    have hy := getD_some (xs := ys) (j := j) (by omega)
    refine L0_step ?_
    rw [if_pos (by omega)]
    refine ⟨b0, o0, rfl, by omega, by omega, _, Ints.get h0 hx, b1, o1, rfl, by omega, by omega, _, Ints.get h1 hy, ?_⟩
    have ed : ∀ zs : List Int, j < zs.length → zs.drop j = zs.getD j 0 :: zs.drop (j + 1) := fun zs hz => by rw [List.drop_eq_getElem_cons hz]; simp [List.getD, hz]
    rw [ed xs (by omega), ed ys (by omega)]
    by_cases e : xs.getD j 0 = ys.getD j 0
    · rw [if_pos e, i64 (by omega) (by omega), e]
      simp only [List.cons.injEq, true_and]
      exact_mod_cast ih (j + 1) (by omega)
    · rw [if_neg e]
      simp only [List.cons.injEq, e, false_and, decide_false]
theorem ok {H : Heap} {a0 a1 : Option Addr} {n m k0 k1 : Nat} {xs ys : List Int} (h0 : Ints .i64 H a0 n k0 xs) (h1 : Ints .i64 H a1 m k1 ys) (hn : n ≤ 140737488355328) : Cr 67 [.slice a0 n k0, .slice a1 m k1] H = some (.bool (decide (xs = ys)), H) := by
  have hl := h0.ln
  have hl1 := h1.ln
  refine call ?_
  by_cases e : n = m
  · subst e
    rw [if_pos rfl]
    simpa using l0 h0 h1 hn n 0 (by omega)
  · rw [if_neg (by omega), decide_eq_false fun h => e (by rw [← hl, ← hl1, h])]
end F67
namespace F68
theorem l0 {H : Heap} {a0 a1 : Option Addr} {n k0 k1 : Nat} {xs ys : List Int} (h0 : Ints .u8 H a0 n k0 xs) (h1 : Ints .u8 H a1 n k1 ys) (hn : n ≤ 140737488355328) : ∀ (d j : Nat), j + d = n → L0 a0 n k0 a1 n k1 (n : Int) (j : Int) H (.bool (decide (xs.drop j = ys.drop j)), H) := by
  have hl := h0.ln
  have hl1 := h1.ln
  intro d
  induction d with
  | zero =>
    intro j hj
    refine L0_step ?_
    rw [if_neg (by omega), List.drop_eq_nil_of_le (by omega), List.drop_eq_nil_of_le (by omega)]
    rfl
  | succ d ih =>
    intro j hj
    obtain ⟨b0, o0, rfl⟩ := h0.at (by omega)
    obtain ⟨b1, o1, rfl⟩ := h1.at (by omega)
    have hx := getD_some (xs := xs) (j := j) (by omega)
    have hy := getD_some (xs := ys) (j := j) (by omega)
    refine L0_step ?_
    rw [if_pos (by omega)]
    refine ⟨b0, o0, rfl, by omega, by omega, _, Ints.get h0 hx, b1, o1, rfl, by omega, by omega, _, Ints.get h1 hy, ?_⟩
    have ed : ∀ zs : List Int, j < zs.length → zs.drop j = zs.getD j 0 :: zs.drop (j + 1) := fun zs hz => by rw [List.drop_eq_getElem_cons hz]; simp [List.getD, hz]
    rw [ed xs (by omega), ed ys (by omega)]
    by_cases e : xs.getD j 0 = ys.getD j 0
    · rw [if_pos e, i64 (by omega) (by omega), e]
      simp only [List.cons.injEq, true_and]
      exact_mod_cast ih (j + 1) (by omega)
    · rw [if_neg e]
      simp only [List.cons.injEq, e, false_and, decide_false]
theorem ok {H : Heap} {a0 a1 : Option Addr} {n m k0 k1 : Nat} {xs ys : List Int} (h0 : Ints .u8 H a0 n k0 xs) (h1 : Ints .u8 H a1 m k1 ys) (hn : n ≤ 140737488355328) : Cr 68 [.slice a0 n k0, .slice a1 m k1] H = some (.bool (decide (xs = ys)), H) := by
  have hl := h0.ln
  have hl1 := h1.ln
  refine call ?_
  by_cases e : n = m
  · subst e
    rw [if_pos rfl]
    simpa using l0 h0 h1 hn n 0 (by omega)
  · rw [if_neg (by omega), decide_eq_false fun h => e (by rw [← hl, ← hl1, h])]
end F68
theorem pv_eq {a b : PV} : a = b ↔ a.f = b.f ∧ a.t = b.t ∧ a.n = b.n ∧ a.l = b.l ∧ a.path = b.path ∧ a.data = b.data := by
  cases a; cases b; simp
theorem enc_inj {v w : PV} (hv : mayP v) (hw : mayP w) (h : encV v = encV w) : v = w := by
  have := dec_enc hv
  rw [h, dec_enc hw] at this
  exact (Prod.mk.inj this).1.symm
namespace F42
theorem ok {H : Heap} {p q : Pk} (hp : PkOk H p) (hq : PkOk H q) : ∃ H', Cr 42 [p.agg, q.agg] H = some (.bool (decide (p.v = q.v)), H') ∧ Keep H.next H H' := by
  obtain ⟨H1, H2, e1, e2, n1, n2, g1, g2, g3, k1, k2⟩ := two H p.cells q.cells
  have hp2 := hp.keep k2
  have hq2 := hq.keep k2
  refine ⟨H2, call ⟨_, e1, _, e2, _, rldc' g2 0, _, rldc' g3 0, ?_⟩, k2⟩
  by_cases c1 : p.v.f = q.v.f
  · rw [if_pos c1]
    refine ⟨_, rldc' g2 1, _, rldc' g3 1, ?_⟩
    by_cases c2 : p.v.t = q.v.t
    · rw [if_pos c2]
      refine ⟨_, rldc' g2 2, _, rldc' g3 2, ?_⟩
      by_cases c3 : p.v.n = q.v.n
      · rw [if_pos c3]
        refine ⟨_, rldc' g2 3, _, rldc' g3 3, ?_⟩
        by_cases c4 : p.v.l = q.v.l
        · rw [if_pos c4]
          refine ⟨_, _, _, rldc' g2 4, _, _, _, rldc' g3 4, _, _, F67.ok hp2.path hq2.path (by have := hp.ps; omega), ?_⟩
          by_cases c5 : p.v.path = q.v.path
          · rw [if_pos (by simpa using c5)]
            refine ⟨_, _, _, rldc' g2 5, _, _, _, rldc' g3 5, _, _, F68.ok hp2.data hq2.data hp.ds, ?_⟩
            rw [show decide (p.v = q.v) = decide (p.v.data = q.v.data) from decide_eq_decide.2 ⟨fun h => by rw [h], fun h => pv_eq.2 ⟨c1, c2, c3, c4, c5, h⟩⟩]
          · rw [if_neg (by simpa using c5), decide_eq_false fun h => c5 (by rw [h])]
        · rw [if_neg c4, decide_eq_false fun h => c4 (by rw [h])]
      · rw [if_neg c3, decide_eq_false fun h => c3 (by rw [h])]
    · rw [if_neg c2, decide_eq_false fun h => c2 (by rw [h])]
  · rw [if_neg c1, decide_eq_false fun h => c1 (by rw [h])]
end F42
namespace F11
theorem ok {H : Heap} {p q : Pk} (hp : PkOk H p) (hq : PkOk H q) (bp : IsB p.v.data) (bq : IsB q.v.data) : ∃ H', Cr 11 [p.agg, q.agg] H = some (.bool true, H') := by
  obtain ⟨H1, H2, e1, e2, n1, n2, g1, g2, g3, k1, k2⟩ := two H p.cells q.cells
  have hp2 := hp.keep k2
  have hq2 := hq.keep k2
  have aw : ∀ X, ∃ H', L0 H.next 0 H1.next 0 true X (.bool true, H') := fun X => by
    obtain ⟨H', c, _⟩ := F20.ok X
    refine ⟨H', L0_step ?_⟩
    rw [if_pos rfl]
    exact ⟨_, _, c, rfl⟩
  obtain ⟨H3, c3, p3⟩ := F27.ok (H := H2) (p := p)
  have n3 := p3.next
  have gp3 : H3.get H.next = .row p.cells true := by rw [p3.get _ (by omega)]; exact g2
  have gq3 : H3.get H1.next = .row q.cells true := by rw [p3.get _ (by omega)]; exact g3
  by_cases l1 : ¬(p.v.path.length ≤ 60 ∧ p.v.data.length ≤ 200)
  · obtain ⟨H', z⟩ := aw H3
    refine ⟨H', call ⟨_, e1, _, e2, _, _, _, _, _, _, _, _, _, _, rldAll g2, _, _, c3, ?_⟩⟩
    rw [if_neg (by simpa using l1)]; exact z
  replace l1 := Classical.not_not.1 l1
  obtain ⟨H4, c4, p4⟩ := F27.ok (H := H3) (p := q)
  have n4 := p4.next
  have gp4 : H4.get H.next = .row p.cells true := by rw [p4.get _ (by omega)]; exact gp3
  have gq4 : H4.get H1.next = .row q.cells true := by rw [p4.get _ (by omega)]; exact gq3
  have hp4 := (hp2.keep p3).keep p4
  have hq4 := (hq2.keep p3).keep p4
  by_cases l2 : ¬(q.v.path.length ≤ 60 ∧ q.v.data.length ≤ 200)
  · obtain ⟨H', z⟩ := aw H4
    refine ⟨H', call ⟨_, e1, _, e2, _, _, _, _, _, _, _, _, _, _, rldAll g2, _, _, c3, ?_⟩⟩
    rw [if_pos (by simpa using l1)]
    refine ⟨_, _, _, _, _, _, _, _, _, _, rldAll gq3, _, _, c4, ?_⟩
    rw [if_neg (by simpa using l2)]; exact z
  replace l2 := Classical.not_not.1 l2
  obtain ⟨H5, c5, p5⟩ := F28.ok hp4
  have n5 := p5.next
  have gp5 : H5.get H.next = .row p.cells true := by rw [p5.get _ (by omega)]; exact gp4
  have gq5 : H5.get H1.next = .row q.cells true := by rw [p5.get _ (by omega)]; exact gq4
  by_cases m1 : ¬mayP p.v
  · obtain ⟨H', z⟩ := aw H5
    refine ⟨H', call ⟨_, e1, _, e2, _, _, _, _, _, _, _, _, _, _, rldAll g2, _, _, c3, ?_⟩⟩
    rw [if_pos (by simpa using l1)]
    refine ⟨_, _, _, _, _, _, _, _, _, _, rldAll gq3, _, _, c4, ?_⟩
    rw [if_pos (by simpa using l2)]
    refine ⟨_, _, _, _, _, _, _, _, _, _, rldAll gp4, _, _, c5, ?_⟩
    rw [if_neg (by simpa using m1)]; exact z
  replace m1 := Classical.not_not.1 m1
  obtain ⟨H6, c6, p6⟩ := F28.ok (hq4.keep p5)
  have n6 := p6.next
  have gp6 : H6.get H.next = .row p.cells true := by rw [p6.get _ (by omega)]; exact gp5
  have gq6 : H6.get H1.next = .row q.cells true := by rw [p6.get _ (by omega)]; exact gq5
  have hp6 := (hp4.keep p5).keep p6
  have hq6 := (hq4.keep p5).keep p6
  have go : ∀ r, L0 H.next 0 H1.next 0 (!decide (mayP q.v)) H6 r → Cr 11 [p.agg, q.agg] H = some r := by
    intro r hr
    refine call ⟨_, e1, _, e2, _, _, _, _, _, _, _, _, _, _, rldAll g2, _, _, c3, ?_⟩
    rw [if_pos (by simpa using l1)]
    refine ⟨_, _, _, _, _, _, _, _, _, _, rldAll gq3, _, _, c4, ?_⟩
    rw [if_pos (by simpa using l2)]
    refine ⟨_, _, _, _, _, _, _, _, _, _, rldAll gp4, _, _, c5, ?_⟩
    rw [if_pos (by simpa using m1)]
    exact ⟨_, _, _, _, _, _, _, _, _, _, rldAll gq5, _, _, c6, hr⟩
  by_cases m2 : ¬mayP q.v
  · obtain ⟨H', z⟩ := aw H6
    exact ⟨H', go _ (by rw [decide_eq_false m2]; exact z)⟩
  replace m2 := Classical.not_not.1 m2
  obtain ⟨a7, k7, H7, c7, o7, p7⟩ := F41.ok hp6 bp
  rw [if_pos m1, if_pos m1] at c7
  rw [if_pos m1] at o7
  have n7 := p7.next
  have gq7 : H7.get H1.next = .row q.cells true := by rw [p7.get _ (by omega)]; exact gq6
  obtain ⟨a8, k8, H8, c8, o8, p8⟩ := F41.ok (hq6.keep p7) bq
  rw [if_pos m2, if_pos m2] at c8
  rw [if_pos m2] at o8
  have n8 := p8.next
  have gp8 : H8.get H.next = .row p.cells true := by rw [p8.get _ (by omega), p7.get _ (by omega)]; exact gp6
  have gq8 : H8.get H1.next = .row q.cells true := by rw [p8.get _ (by omega)]; exact gq7
  have hp8 := (hp6.keep p7).keep p8
  have hq8 := (hq6.keep p7).keep p8
  obtain ⟨H9, c9, p9⟩ := F42.ok hp8 hq8
  have n9 := p9.next
  have gp9 : H9.get H.next = .row p.cells true := by rw [p9.get _ (by omega)]; exact gp8
  obtain ⟨H10, c10, p10⟩ := F42.ok (hp8.keep p9) (hp8.keep p9)
  have n10 := p10.next
  have gp10 : H10.get H.next = .row p.cells true := by rw [p10.get _ (by omega)]; exact gp9
  obtain ⟨H', cE, _⟩ := F20.ok H10
  have o7' := o7.sl.keep p8
  refine ⟨H', go _ ?_⟩
  rw [decide_eq_true m2]
  refine L0_step ?_
  rw [if_neg (by simp)]
  refine ⟨_, _, _, _, _, _, _, _, _, _, rldAll gp6, _, _, _, _, _, c7, _, _, _, _, _, _, _, _, _, _, rldAll gq7, _, _, _, _, _, c8, ?_⟩
  rw [if_pos rfl, if_pos rfl]
  refine ⟨_, Sl.str o7', _, o8.sl.str, _, _, _, _, _, _, _, _, _, _, rldAll gp8, _, _, _, _, _, _, _, _, _, _, rldAll gq8, _, _, c9, ?_⟩
  rw [str_eq (encV_isB m1 bp) (encV_isB m2 bq), if_pos (by
    rw [beq_iff_eq, decide_eq_decide]
    exact ⟨enc_inj m1 m2, fun h => by rw [h]⟩)]
  refine ⟨_, _, _, _, _, _, _, _, _, _, rldAll gp9, _, _, _, _, _, _, _, _, _, _, rldAll gp9, _, _, c10, ?_⟩
  rw [if_pos (by simp)]
  refine ⟨_, _, _, rldc' gp10 4, _, _, _, rldc' gp10 5, ?_⟩
  have el : ((encV p.v).length : Int) = IntKind.wrap .i64 (IntKind.wrap .i64 (11 + (p.v.path.length : Int)) + (p.v.data.length : Int)) := by
    rw [encV_len, i64 (n := 11 + (p.v.path.length : Int)) (by omega) (by omega), i64 (by omega) (by omega)]; omega
  rw [if_pos el]
  exact ⟨_, _, cE, Sl.str (Sl.keep o7' p9), Sl.str (o8.sl.keep p9), rfl⟩
theorem law {H : Heap} {ds : List (List Value)} (h : HoldsAll H [TPk, TPk] ds) : ∃ H', Cr 11 (vals [TPk, TPk] ds) H = some (.bool true, H') := by
  obtain ⟨d0, _, rfl, h0, h⟩ := h.cons
  obtain ⟨d1, _, rfl, h1, h⟩ := h.cons
  obtain rfl := h.nil
  obtain ⟨p, rfl, hp, bp⟩ := pkOf h0
  obtain ⟨q, rfl, hq, bq⟩ := pkOf h1
  exact ok hp hq bp bq
end F11
end Go.X
