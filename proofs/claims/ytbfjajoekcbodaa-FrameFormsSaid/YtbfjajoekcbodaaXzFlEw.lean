/- The law of the frames' forms. -/
import Derived.Test.YtbfjajoekcbodaaXzFw
import Derived.Test.YtbfjajoekcbodaaXzTeM4
set_option linter.unusedVariables false
set_option linter.unusedSimpArgs false
set_option maxRecDepth 20000
namespace Go.X
open Go Go.RowKit Go.Proofs
namespace F10
theorem ok {H : Heap} {f g : Fm} (h : FmOk H f) (h2 : FmOk H g) (hb : IsB f.dt) (hb2 : IsB g.dt) : ∃ H', Ce 10 [f.agg, g.agg] H = some (.bool true, H') := by
  obtain ⟨H1, H2, e1, e2, n1, n2, g1, g2, g3, k1, k2⟩ := two H f.cells g.cells
  obtain ⟨H3, c3, k3⟩ := F26.ok (h.keep k2)
  have n3 := k3.next
  have k03 := k2.trans (k3.weak k2.next)
  have gf : ∀ {X}, Keep H2.next H2 X → X.get H.next = .row f.cells true := fun kk => by rw [kk.get _ (by omega)]; exact g2
  have gg : ∀ {X}, Keep H2.next H2 X → X.get H1.next = .row g.cells true := fun kk => by rw [kk.get _ (by omega)]; exact g3
  by_cases hl : F26.okP f
  · obtain ⟨H4, c4, k4⟩ := F26.ok (h2.keep k03)
    have k24 := k3.trans (k4.weak n3)
    have k04 := k2.trans (k24.weak k2.next)
    have start : ∀ r, L0 H.next 0 H1.next 0 (!decide (F26.okP g)) H4 r → Ce 10 [f.agg, g.agg] H = some r := fun r z => by
      refine call ⟨_, e1, _, e2, _, _, _, _, _, _, _, _, _, _, rldAll g2, _, _, c3, ?_⟩
      rw [if_pos (by simpa using hl)]
      exact ⟨_, _, _, _, _, _, _, _, _, _, rldAll (gg k3), _, _, c4, z⟩
    by_cases hl2 : F26.okP g
    · rw [decide_eq_true hl2] at start
      obtain ⟨a5, k5', H5, c5, o5, k5⟩ := F33.ok (h.keep k04) hb
      have k25 := k24.trans (k5.weak k24.next)
      have k05 := k2.trans (k25.weak k2.next)
      obtain ⟨a6, k6', H6, c6, o6, k6⟩ := F28.ok (h.keep k05) hb
      have k26 := k25.trans (k6.weak k25.next)
      have k06 := k2.trans (k26.weak k2.next)
      obtain ⟨H7, c7, k7⟩ := F34.ok (h.keep k06)
      have k27 := k26.trans (k7.weak k26.next)
      have k07 := k2.trans (k27.weak k2.next)
      obtain ⟨H8, c8, k8⟩ := F35.ok (h.keep k07)
      have k28 := k27.trans (k8.weak k27.next)
      have k08 := k2.trans (k28.weak k2.next)
      have k68 := k7.trans (k8.weak k7.next)
      have sa : By H8 a5 (encFO f.v).length k5' (encFO f.v) := (o5.sl.keep k6).keep k68
      have sb : By H8 a6 (encFO f.v).length k6' (encFO f.v) := o6.sl.keep k68
      obtain ⟨H9, c9, k9⟩ := F36.ok (h.keep k08) (h2.keep k08)
      have k29 := k28.trans (k9.weak k28.next)
      have k09 := k2.trans (k29.weak k2.next)
      obtain ⟨H10, c10, k10⟩ := F32.ok (h.keep k09) (h2.keep k09) hb hb2
      obtain ⟨H11, c11, k11⟩ := F27.ok H10
      refine ⟨H11, start _ (L0_step ?_)⟩
      rw [if_neg (by simp)]
      refine ⟨_, _, _, _, _, _, _, _, _, _, rldAll (gf k24), _, _, _, _, _, c5, _, _, _, _, _, _, _, _, _, _, rldAll (gf k25), _, _, _, _, _, c6, _, _, _, _, _, _, _, _, _, _, rldAll (gf k26), _, _, c7, _, _, _, _, _, _, _, _, _, _, rldAll (gf k26), _, _, c8, ?_⟩
      rw [if_pos (by simp)]
      refine ⟨_, Sl.str sa, _, Sl.str sb, ?_⟩
      rw [if_pos rfl, if_pos rfl]
      refine ⟨_, _, _, _, _, _, _, _, _, _, rldAll (gf k28), _, _, _, _, _, _, _, _, _, _, rldAll (gg k28), _, _, c9, _, _, _, _, _, _, _, _, _, _, rldAll (gf k28), _, _, _, _, _, _, _, _, _, _, rldAll (gg k28), _, _, c10, ?_⟩
      rw [if_pos (by simp)]
      exact ⟨_, _, c11, rldAll (gf k27), rldAll (gf k29), rldAll (gg k29), rfl⟩
    · rw [decide_eq_false hl2] at start
      obtain ⟨H7, c7, k7⟩ := F27.ok H4
      refine ⟨H7, start _ (L0_step ?_)⟩
      rw [if_pos (by simp)]
      exact ⟨_, _, c7, rfl⟩
  · obtain ⟨H7, c7, k7⟩ := F27.ok H3
    refine ⟨H7, call ⟨_, e1, _, e2, _, _, _, _, _, _, _, _, _, _, rldAll g2, _, _, c3, ?_⟩⟩
    rw [if_neg (by simpa using hl)]
    refine L0_step ?_
    rw [if_pos rfl]
    exact ⟨_, _, c7, rfl⟩
theorem law {H : Heap} {ds : List (List Value)} (h : HoldsAll H [TFm, TFm] ds) : ∃ H', Ce 10 (vals [TFm, TFm] ds) H = some (.bool true, H') := by
  obtain ⟨d0, _, rfl, h0, h⟩ := h.cons
  obtain ⟨d1, _, rfl, h1, h⟩ := h.cons
  obtain rfl := h.nil
  obtain ⟨f, rfl, hf, hb⟩ := fmOf h0
  obtain ⟨g, rfl, hg, hb2⟩ := fmOf h1
  exact ok hf hg hb hb2
end F10
end Go.X
