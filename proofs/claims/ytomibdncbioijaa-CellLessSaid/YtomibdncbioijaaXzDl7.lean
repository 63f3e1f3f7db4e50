/- The law CellLess. -/
import Derived.Test.YtomibdncbioijaaXzDc
import Derived.Test.YtomibdncbioijaaXzTd7
set_option linter.unusedVariables false
set_option linter.unusedSimpArgs false
set_option maxRecDepth 20000
namespace Go.X
open Go Go.RowKit Go.Proofs
theorem eqC (a b : C5) : ((a.f == b.f) && ((a.s == b.s) && ((a.c == b.c) && ((a.o == b.o) && ((a.p == b.p) && true))))) = decide (a = b) := by
  by_cases h : a = b
  · subst h; simp
  · rw [decide_eq_false h]
    cases a; cases b
    simp only [C5.mk.injEq] at h
    exact Bool.eq_false_iff.2 fun q => h (by simpa using q)
theorem cmpC_irr (a : C5) : decide (cmpC a a < 0) = false := decide_eq_false (by unfold cmpC; rw [lx_irr]; decide)
namespace F7
theorem l0 {H : Heap} {p q r : Nat} {a b c : C5} (ga : H.get p = .row a.cells true) (gb : H.get q = .row b.cells true) (gc : H.get r = .row c.cells true) (hp : p < H.next) (hq : q < H.next) (hr : r < H.next) : ∃ H', L0 p 0 q 0 r 0 (decide (cmpC a b < 0)) false H (.bool true, H') := by
  have tail : ∀ X, Keep H.next H X → ∃ H3 H4 H5, Cd 22 [a.agg, a.agg] X = some (.bool false, H3) ∧ Cd 23 [a.agg, b.agg] H3 = some (.bool (decide (cmpC a b < 0)), H4) ∧ Cd 19 [] H4 = some (.bool true, H5) ∧ X.get p = .row a.cells true ∧ H3.get p = .row a.cells true ∧ H3.get q = .row b.cells true := by
    intro X kX
    obtain ⟨H3, c3, k3⟩ := F22.ok a a X
    rw [cmpC_irr] at c3
    obtain ⟨H4, c4, k4⟩ := F23.ok a b H3
    obtain ⟨H5, c5, _⟩ := F19.ok H4
    have m := kX.next
    exact ⟨H3, H4, H5, c3, c4, c5, by rw [kX.get _ hp]; exact ga, by rw [k3.get _ (by omega), kX.get _ hp]; exact ga, by rw [k3.get _ (by omega), kX.get _ hq]; exact gb⟩
  by_cases hx : cmpC a b < 0
  · obtain ⟨H1, c1, k1⟩ := F22.ok b c H
    by_cases hy : cmpC b c < 0
    · obtain ⟨H2, c2, k2⟩ := F22.ok a c H1
      have hz : cmpC a c < 0 := lx_trans hx hy
      rw [decide_eq_true hz] at c2
      rw [decide_eq_true hy] at c1
      have m1 := k1.next
      obtain ⟨H3, H4, H5, c3, c4, c5, a2, a3, b3⟩ := tail H2 (k1.th k2)
      refine ⟨H5, L0_step ?_⟩
      rw [if_neg (by simp), if_pos (decide_eq_true hx)]
      refine ⟨_, _, _, _, _, rldAll gb, _, _, _, _, _, rldAll gc, _, _, c1, ?_⟩
      rw [if_pos rfl]
      refine ⟨_, _, _, _, _, rldAll (show H1.get p = .row a.cells true by rw [k1.get _ hp]; exact ga), _, _, _, _, _, rldAll (show H1.get r = .row c.cells true by rw [k1.get _ hr]; exact gc), _, _, c2, ?_⟩
      rw [if_pos rfl]
      refine ⟨_, _, _, _, _, rldAll a2, _, _, _, _, _, rldAll a2, _, _, c3, ?_⟩
      rw [if_neg (by simp)]
      refine ⟨_, _, _, _, _, rldAll a3, _, _, _, _, _, rldAll b3, _, _, c4, ?_⟩
      rw [if_pos (by simp)]
      exact ⟨_, _, c5, rfl⟩
    · rw [decide_eq_false hy] at c1
      obtain ⟨H3, H4, H5, c3, c4, c5, a2, a3, b3⟩ := tail H1 k1
      refine ⟨H5, L0_step ?_⟩
      rw [if_neg (by simp), if_pos (decide_eq_true hx)]
      refine ⟨_, _, _, _, _, rldAll gb, _, _, _, _, _, rldAll gc, _, _, c1, ?_⟩
      rw [if_neg (by simp)]
      refine ⟨_, _, _, _, _, rldAll a2, _, _, _, _, _, rldAll a2, _, _, c3, ?_⟩
      rw [if_neg (by simp)]
      refine ⟨_, _, _, _, _, rldAll a3, _, _, _, _, _, rldAll b3, _, _, c4, ?_⟩
      rw [if_pos (by simp)]
      exact ⟨_, _, c5, rfl⟩
  · obtain ⟨H3, H4, H5, c3, c4, c5, a2, a3, b3⟩ := tail H (Keep.refl _ _)
    refine ⟨H5, L0_step ?_⟩
    rw [if_neg (by simp), if_neg (by simpa using hx)]
    refine ⟨_, _, _, _, _, rldAll a2, _, _, _, _, _, rldAll a2, _, _, c3, ?_⟩
    rw [if_neg (by simp)]
    refine ⟨_, _, _, _, _, rldAll a3, _, _, _, _, _, rldAll b3, _, _, c4, ?_⟩
    rw [if_pos (by simp)]
    exact ⟨_, _, c5, rfl⟩
theorem ok (a b c : C5) (H : Heap) : ∃ H', Cd 7 [a.agg, b.agg, c.agg] H = some (.bool true, H') := by
  obtain ⟨H1, H2, e1, e2, n1, n2, g1, ga, gb, k1, k2⟩ := two H a.cells b.cells
  obtain ⟨H3, e3, n3, gc, k3⟩ := one H2 c.cells
  have ga3 : H3.get H.next = .row a.cells true := by rw [k3.get _ (by omega)]; exact ga
  have gb3 : H3.get H1.next = .row b.cells true := by rw [k3.get _ (by omega)]; exact gb
  obtain ⟨H4, c4, k4⟩ := F22.ok a b H3
  obtain ⟨H5, c5, k5⟩ := F22.ok b a H4
  have m4 := k4.next
  have m5 := k5.next
  have ga4 : H4.get H.next = .row a.cells true := by rw [k4.get _ (by omega)]; exact ga3
  have gb4 : H4.get H1.next = .row b.cells true := by rw [k4.get _ (by omega)]; exact gb3
  have ga5 : H5.get H.next = .row a.cells true := by rw [k5.get _ (by omega)]; exact ga4
  have gb5 : H5.get H1.next = .row b.cells true := by rw [k5.get _ (by omega)]; exact gb4
  have gc5 : H5.get H2.next = .row c.cells true := by rw [k5.get _ (by omega), k4.get _ (by omega)]; exact gc
  obtain ⟨H', z⟩ := l0 ga5 gb5 gc5 (by omega) (by omega) (by omega)
  refine ⟨H', call ⟨_, e1, _, e2, _, e3, _, _, _, _, _, rldAll ga3, _, _, _, _, _, rldAll gb3, _, _, c4, _, _, _, _, _, rldAll gb3, _, _, _, _, _, rldAll ga3, _, _, c5, rldAll gb4, rldAll ga4, ?_⟩⟩
  by_cases hx : cmpC a b < 0
  · rw [if_pos (decide_eq_true hx), if_neg (by rw [decide_eq_false (show ¬cmpC b a < 0 from lx_anti hx)]; decide)]
    refine ⟨_, _, _, _, _, rldAll ga5, _, _, _, _, _, rldAll gb5, ?_⟩
    have hne : a ≠ b := fun h => by subst h; have := cmpC_irr a; rw [decide_eq_true hx] at this; cases this
    rw [eqC, decide_eq_false hne, show (!(false == false)) = false from rfl]
    exact z
  · rw [if_neg (by simpa using hx)]
    refine ⟨_, _, _, _, _, rldAll ga5, _, _, _, _, _, rldAll gb5, ?_⟩
    rw [eqC]
    have : (!((!decide (cmpC b a < 0)) == decide (a = b))) = false := by
      by_cases hy : cmpC b a < 0
      · have hne : a ≠ b := fun h => by subst h; have := cmpC_irr a; rw [decide_eq_true hy] at this; cases this
        rw [decide_eq_true hy, decide_eq_false hne]; rfl
      · have he : a = b := nums_inj.1 (lx_tot rfl hx hy)
        rw [decide_eq_false hy, decide_eq_true he]; rfl
    rw [this]
    exact z
abbrev TC5 : Ty := .strct (.pair (.int .i64) (.pair (.int .i64) (.pair (.int .i64) (.pair (.int .i64) (.pair (.int .i64) (.unit))))))
theorem cOf {H : Heap} {vs : List Value} (h : Holds H TC5 vs) : ∃ v : C5, vs = v.cells := by
  obtain ⟨_, _, rfl, ⟨a, rfl, _⟩, _, _, rfl, ⟨b, rfl, _⟩, _, _, rfl, ⟨c, rfl, _⟩, _, _, rfl, ⟨d, rfl, _⟩, _, _, rfl, ⟨e, rfl, _⟩, rfl⟩ := h
  exact ⟨⟨a, b, c, d, e⟩, rfl⟩
theorem law {H : Heap} {ds : List (List Value)} (h : HoldsAll H [TC5, TC5, TC5] ds) : ∃ H', Cd 7 (vals [TC5, TC5, TC5] ds) H = some (.bool true, H') := by
  obtain ⟨d0, _, rfl, h0, h⟩ := h.cons
  obtain ⟨d1, _, rfl, h1, h⟩ := h.cons
  obtain ⟨d2, _, rfl, h2, h⟩ := h.cons
  obtain rfl := h.nil
  obtain ⟨a, rfl⟩ := cOf h0
  obtain ⟨b, rfl⟩ := cOf h1
  obtain ⟨c, rfl⟩ := cOf h2
  exact ok a b c H
end F7
end Go.X
