/- The law of one frame's bytes. -/
import Derived.Test.YtbfjajoekcbodaaXzFa
import Derived.Test.YtbfjajoekcbodaaXzTeM6
set_option linter.unusedVariables false
set_option linter.unusedSimpArgs false
set_option maxRecDepth 20000
namespace Go.X
open Go Go.RowKit Go.Proofs
theorem encF_inj {v w : VF} (hv : mayF v) (hw : mayF w) (h : encF v = encF w) : v = w := by
  have h1 := decF_enc hv
  have h2 := decF_enc hw
  rw [h, h2] at h1
  exact (Prod.mk.inj h1).1.symm
namespace F12
theorem ok {H : Heap} {f g : Fm} (h : FmOk H f) (h2 : FmOk H g) (hb : IsB f.dt) (hb2 : IsB g.dt) : ∃ H', Ce 12 [f.agg, g.agg] H = some (.bool true, H') := by
  obtain ⟨H1, H2, e1, e2, n1, n2, g1, g2, g3, k1, k2⟩ := two H f.cells g.cells
  obtain ⟨H3, c3, k3⟩ := F26.ok (h.keep k2)
  have n3 := k3.next
  have k03 := k2.trans (k3.weak k2.next)
  have gf : ∀ {X}, Keep H2.next H2 X → X.get H.next = .row f.cells true := fun kk => by rw [kk.get _ (by omega)]; exact g2
  have gg : ∀ {X}, Keep H2.next H2 X → X.get H1.next = .row g.cells true := fun kk => by rw [kk.get _ (by omega)]; exact g3
  by_cases hl : F26.okP f
  · obtain ⟨H4, c4, k4⟩ := F26.ok (h2.keep k03)
    have k24 := k3.trans (k4.weak n3)
    have k04 := k2.trans (k24.weak k2.next)
    have start : ∀ r, L0 H.next 0 H1.next 0 (!decide (F26.okP g)) H4 r → Ce 12 [f.agg, g.agg] H = some r := fun r z => by
      refine call ⟨_, e1, _, e2, _, _, _, _, _, _, _, _, _, _, rldAll g2, _, _, c3, ?_⟩
      rw [if_pos (by simpa using hl)]
      exact ⟨_, _, _, _, _, _, _, _, _, _, rldAll (gg k3), _, _, c4, z⟩
    by_cases hl2 : F26.okP g
    · rw [decide_eq_true hl2] at start
      obtain ⟨a5, k5', H5, c5, o5, k5⟩ := F33.ok (h.keep k04) hb
      have k25 := k24.trans (k5.weak k24.next)
      have k05 := k2.trans (k25.weak k2.next)
      obtain ⟨a6, k6', H6, c6, o6, k6⟩ := F33.ok (h2.keep k05) hb2
      have k26 := k25.trans (k6.weak k25.next)
      have k06 := k2.trans (k26.weak k2.next)
      have st : ∀ r, (if (if mayF f.v then (0 : Int) else 1) = 0 then L1 H.next 0 H1.next 0 a5 (encFO f.v).length k5' a6 (encFO g.v).length k6' (!((if mayF g.v then (0 : Int) else 1) == 0)) H6 r else L1 H.next 0 H1.next 0 a5 (encFO f.v).length k5' a6 (encFO g.v).length k6' true H6 r) → Ce 12 [f.agg, g.agg] H = some r := fun r z => start r (by
        refine L0_step ?_
        rw [if_neg (by simp)]
        exact ⟨_, _, _, _, _, _, _, _, _, _, rldAll (gf k24), _, _, _, _, _, c5, _, _, _, _, _, _, _, _, _, _, rldAll (gg k25), _, _, _, _, _, c6, z⟩)
      have aw : ∃ H', L1 H.next 0 H1.next 0 a5 (encFO f.v).length k5' a6 (encFO g.v).length k6' true H6 (.bool true, H') := by
        obtain ⟨H7, c7, k7⟩ := F27.ok H6
        refine ⟨H7, L1_step ?_⟩
        rw [if_pos rfl]
        exact ⟨_, _, c7, rfl⟩
      by_cases m1 : mayF f.v
      · by_cases m2 : mayF g.v
        · have sa : By H6 a5 (encFO f.v).length k5' (encFO f.v) := o5.sl.keep k6
          have sb : By H6 a6 (encFO g.v).length k6' (encFO g.v) := o6.sl
          obtain ⟨H7, c7, k7⟩ := F36.ok (h.keep k06) (h2.keep k06)
          have k27 := k26.trans (k7.weak k26.next)
          have k07 := k2.trans (k27.weak k2.next)
          obtain ⟨H8, c8, k8⟩ := F36.ok (h.keep k07) (h.keep k07)
          obtain ⟨H9, c9, k9⟩ := F27.ok H8
          refine ⟨H9, st _ ?_⟩
          rw [if_pos m1, if_pos rfl, if_pos m2]
          refine L1_step ?_
          rw [if_neg (by decide)]
          refine ⟨_, Sl.str sa, _, Sl.str sb, _, _, _, _, _, _, _, _, _, _, rldAll (gf k26), _, _, _, _, _, _, _, _, _, _, rldAll (gg k26), _, _, c7, ?_⟩
          have eq : (((strOfNums (encFO f.v)).toList == (strOfNums (encFO g.v)).toList) == decide (f.v = g.v)) = true := by
            rw [str_eq (encFO_isB _ hb) (encFO_isB _ hb2), encFO_may m1, encFO_may m2]
            have : decide (encF f.v = encF g.v) = decide (f.v = g.v) := decide_eq_decide.2 ⟨encF_inj m1 m2, fun e => by rw [e]⟩
            rw [this]; simp
          rw [if_pos eq]
          refine ⟨_, _, _, _, _, _, _, _, _, _, rldAll (gf k27), _, _, _, _, _, _, _, _, _, _, rldAll (gf k27), _, _, c8, ?_⟩
          rw [if_pos (by simp)]
          exact ⟨_, _, c9, Sl.str (sa.keep k7), Sl.str (sb.keep k7), rfl⟩
        · obtain ⟨H', z⟩ := aw
          refine ⟨H', st _ ?_⟩
          rw [if_pos m1, if_pos rfl, if_neg m2]
          exact z
      · obtain ⟨H', z⟩ := aw
        refine ⟨H', st _ ?_⟩
        rw [if_neg m1, if_neg (by decide)]
        exact z
    · rw [decide_eq_false hl2] at start
      obtain ⟨H7, c7, k7⟩ := F27.ok H4
      refine ⟨H7, start _ (L0_step ?_)⟩
      rw [if_pos (by simp)]
      exact ⟨_, _, c7, rfl⟩
  · obtain ⟨H7, c7, k7⟩ := F27.ok H3
    refine ⟨H7, call ⟨_, e1, _, e2, _, _, _, _, _, _, _, _, _, _, rldAll g2, _, _, c3, ?_⟩⟩
    rw [if_neg (by simpa using hl)]
    refine L0_step ?_
    rw [if_pos rfl]
    exact ⟨_, _, c7, rfl⟩
theorem law {H : Heap} {ds : List (List Value)} (h : HoldsAll H [TFm, TFm] ds) : ∃ H', Ce 12 (vals [TFm, TFm] ds) H = some (.bool true, H') := by
  obtain ⟨d0, _, rfl, h0, h⟩ := h.cons
  obtain ⟨d1, _, rfl, h1, h⟩ := h.cons
  obtain rfl := h.nil
  obtain ⟨f, rfl, hf, hb⟩ := fmOf h0
  obtain ⟨g, rfl, hg, hb2⟩ := fmOf h1
  exact ok hf hg hb hb2
end F12
end Go.X
