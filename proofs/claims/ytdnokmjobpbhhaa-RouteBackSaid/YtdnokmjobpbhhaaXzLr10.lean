/- The law RouteBack. -/
import Derived.Test.YtdnokmjobpbhhaaXzLr9
set_option linter.unusedVariables false
set_option linter.unusedSimpArgs false
set_option maxRecDepth 20000
namespace Go.X
open Go Go.RowKit Go.Proofs
namespace F44
theorem ok {H : Heap} {p q : Pk} (hp : PkOk H p) (hq : PkOk H q) (bp : IsB p.v.data) (bq : IsB q.v.data) : ∃ H', Cr 44 [p.agg, q.agg] H = some (.bool (decide (p.v = q.v)), H') ∧ Keep H.next H H' := by
  obtain ⟨H1, H2, e1, e2, n1, n2, g1, g2, g3, k1, k2⟩ := two H p.cells q.cells
  have hp2 := hp.keep k2
  have hq2 := hq.keep k2
  refine ⟨H2, call ⟨_, e1, _, e2, _, rldc' g2 0, _, rldc' g3 0, ?_⟩, k2⟩
  by_cases c1 : p.v.f = q.v.f
  · rw [if_pos c1]
    refine ⟨_, rldc' g2 1, _, rldc' g3 1, ?_⟩
    by_cases c2 : p.v.t = q.v.t
    · rw [if_pos c2]
      refine ⟨_, rldc' g2 2, _, rldc' g3 2, ?_⟩
      by_cases c3 : p.v.n = q.v.n
      · rw [if_pos c3]
        refine ⟨_, rldc' g2 3, _, rldc' g3 3, ?_⟩
        by_cases c4 : p.v.l = q.v.l
        · rw [if_pos c4]
          refine ⟨_, _, _, rldc' g2 4, _, _, _, rldc' g3 4, _, _, F25.ok hp2.path hq2.path (by have := hp.ps; omega), ?_⟩
          by_cases c5 : p.v.path = q.v.path
          · rw [if_pos (by simpa using c5)]
            refine ⟨_, _, _, rldc' g2 5, _, hp2.data.str, _, _, _, rldc' g3 5, _, hq2.data.str, ?_⟩
            rw [str_eq bp bq, show decide (p.v = q.v) = decide (p.v.data = q.v.data) from decide_eq_decide.2 ⟨fun h => by rw [h], fun h => pv_eq.2 ⟨c1, c2, c3, c4, c5, h⟩⟩]
          · rw [if_neg (by simpa using c5), decide_eq_false fun h => c5 (by rw [h])]
        · rw [if_neg c4, decide_eq_false fun h => c4 (by rw [h])]
      · rw [if_neg c3, decide_eq_false fun h => c3 (by rw [h])]
    · rw [if_neg c2, decide_eq_false fun h => c2 (by rw [h])]
  · rw [if_neg c1, decide_eq_false fun h => c1 (by rw [h])]
end F44
theorem decV_data {bs : List Int} (hb : IsB bs) : IsB (decV bs).1.data := by
  have h0 : IsB pv0.data := fun x hx => by cases hx
  unfold decV
  simp only
  repeat' split
  all_goals first | exact h0 | exact fun x hx => hb x (List.mem_of_mem_drop (List.mem_of_mem_take hx))
theorem decV_err {bs : List Int} (h : (decV bs).2 ≠ 0) : (decV bs).1 = pv0 := by
  revert h
  unfold decV
  simp only
  repeat' split
  all_goals first | exact fun _ => rfl | exact fun h => absurd rfl h
theorem back_back {xs : List Int} (h : pathP xs) : backL (backL xs) = xs := by
  have e : backL xs = xs.reverse := if_pos h
  have hr : pathP xs.reverse := ⟨fun x hx => h.1 x (List.mem_reverse.1 hx), (List.reverse_perm xs).nodup_iff.2 h.2.1, by rw [List.length_reverse]; exact h.2.2⟩
  rw [e, backL, if_pos hr, List.reverse_reverse]
namespace F12
theorem l1 {H : Heap} {a1 : Option Addr} {n1 k1 : Nat} {raw : List Int} (hs : By H a1 n1 k1 raw) (hb : IsB raw) (hn : n1 ≤ 200) : ∃ H', L1 a1 n1 k1 false H (.bool true, H') := by
  obtain ⟨m, H2, c2, hm, mo, g2⟩ := F43.ok hs hb (by omega)
  obtain ⟨H3, e3, n3, g3, k3⟩ := one H2 pk0.cells
  have n2 := g2.next
  let X3 := H3.set H2.next (.row m.cells true)
  have w3 : stc H3 H2.next 0 m.cells = some X3 := rstAll g3 rfl
  have gm : X3.get H2.next = .row m.cells true := by simp [X3]
  have kx : Keep H2.next H2 X3 := k3.trans (Keep.set _ (Nat.le_refl _))
  have m3 := mo.keep kx
  have s3 := (hs.keep g2).keep kx
  have nX : X3.next = H2.next + 1 := n3
  have bm : IsB m.v.data := by rw [hm]; exact decV_data hb
  by_cases h0 : (decV raw).2 = 0
  · obtain ⟨ee, em⟩ := enc_dec hb (show decV raw = ((decV raw).1, 0) from by rw [← h0])
    rw [← hm] at ee em
    obtain ⟨a4, k4, H4, c4, o4, g4⟩ := F41.ok m3 bm
    rw [if_pos em, if_pos em] at c4
    rw [if_pos em] at o4
    have n4 := g4.next
    have gm4 : H4.get H2.next = .row m.cells true := by rw [g4.get _ (by omega)]; exact gm
    obtain ⟨H5, c5, g5⟩ := F28.ok (m3.keep g4)
    obtain ⟨H', cE, _⟩ := F20.ok H5
    refine ⟨H', L1_step ?_⟩
    rw [if_neg (by simp)]
    refine ⟨_, _, _, _, _, _, _, _, _, _, _, _, c2, _, e3, X3, w3, ?_⟩
    rw [if_pos h0]
    refine ⟨_, _, _, _, _, _, _, _, _, _, rldAll gm, _, _, _, _, _, c4, ?_⟩
    rw [if_pos rfl]
    refine ⟨_, o4.sl.str, _, Sl.str (s3.keep g4), ?_⟩
    rw [if_pos (by rw [ee])]
    refine ⟨_, _, _, _, _, _, _, _, _, _, rldAll gm4, _, _, c5, ?_⟩
    rw [if_pos (by simpa using em)]
    exact ⟨_, _, cE, rfl⟩
  · have ez : m.v = pv0 := by rw [hm]; exact decV_err h0
    obtain ⟨H', cE, _⟩ := F20.ok X3
    refine ⟨H', L1_step ?_⟩
    rw [if_neg (by simp)]
    refine ⟨_, _, _, _, _, _, _, _, _, _, _, _, c2, _, e3, X3, w3, ?_⟩
    rw [if_neg h0]
    refine ⟨_, _, _, rldc' gm 5, ?_⟩
    rw [if_pos (by rw [ez]; simp [pv0])]
    exact ⟨_, _, cE, rfl⟩
theorem ok {H : Heap} {p : Pk} {a1 : Option Addr} {n1 k1 : Nat} {raw : List Int} (hp : PkOk H p) (bp : IsB p.v.data) (hs : By H a1 n1 k1 raw) (hb : IsB raw) : ∃ H', Cr 12 [p.agg, .slice a1 n1 k1] H = some (.bool true, H') := by
  obtain ⟨H1, e1, n1', g1, k1'⟩ := one H p.cells
  have h1 := hp.keep k1'
  obtain ⟨H2, c2, p2⟩ := F27.ok (H := H1) (p := p)
  have n2 := p2.next
  have g2 : H2.get H.next = .row p.cells true := by rw [p2.get _ (by omega)]; exact g1
  have h2 := h1.keep p2
  have s2 := (hs.keep k1').keep p2
  have aw : ∃ H', L0 a1 n1 k1 H.next 0 true H2 (.bool true, H') := by
    obtain ⟨H', c, _⟩ := F20.ok H2
    refine ⟨H', L0_step ?_⟩
    rw [if_pos rfl]
    exact ⟨_, _, c, rfl⟩
  have go : ∀ r, (if p.v.path.length ≤ 60 ∧ p.v.data.length ≤ 200 then L0 a1 n1 k1 H.next 0 (decide ((n1 : Int) > 200)) H2 r else L0 a1 n1 k1 H.next 0 true H2 r) → Cr 12 [p.agg, .slice a1 n1 k1] H = some r := by
    intro r hr
    refine call ⟨_, e1, _, _, _, _, _, _, _, _, _, _, rldAll g1, _, _, c2, ?_⟩
    by_cases l : p.v.path.length ≤ 60 ∧ p.v.data.length ≤ 200
    · rw [if_pos l] at hr
      rw [if_pos (by simpa using l)]; exact hr
    · rw [if_neg l] at hr
      rw [if_neg (by simpa using l)]; exact hr
  by_cases l : ¬(p.v.path.length ≤ 60 ∧ p.v.data.length ≤ 200)
  · obtain ⟨H', z⟩ := aw
    exact ⟨H', go _ (by rw [if_neg l]; exact z)⟩
  replace l := Classical.not_not.1 l
  by_cases h200 : (n1 : Int) > 200
  · obtain ⟨H', z⟩ := aw
    exact ⟨H', go _ (by rw [if_pos l, decide_eq_true h200]; exact z)⟩
  suffices ∃ H', L0 a1 n1 k1 H.next 0 false H2 (.bool true, H') by
    obtain ⟨H', z⟩ := this
    exact ⟨H', go _ (by rw [if_pos l, decide_eq_false h200]; exact z)⟩
  obtain ⟨a3, k3, H3, c3, o3, g3⟩ := F41.ok h2 bp
  have n3 := g3.next
  have bE : IsB (if mayP p.v then encV p.v else []) := by
    split
    · rename_i h; exact encV_isB h bp
    · exact fun x hx => by cases hx
  have lE : (if mayP p.v then encV p.v else []).length ≤ 300 := by
    split
    · rw [encV_len]; omega
    · simp
  obtain ⟨m, H4, c4, hm, mo, g4⟩ := F43.ok o3.sl bE (by omega)
  have n4 := g4.next
  obtain ⟨H5, e5, n5, g5, k5⟩ := one H4 pk0.cells
  let X5 := H5.set H4.next (.row m.cells true)
  have w5 : stc H5 H4.next 0 m.cells = some X5 := rstAll g5 rfl
  have gm5 : X5.get H4.next = .row m.cells true := by simp [X5]
  have kx : Keep H4.next H4 X5 := k5.trans (Keep.set _ (Nat.le_refl _))
  have nX : X5.next = H4.next + 1 := n5
  have gp5 : X5.get H.next = .row p.cells true := by rw [kx.get _ (by omega), g4.get _ (by omega), g3.get _ (by omega)]; exact g2
  have p5 := ((h2.keep g3).keep g4).keep kx
  have m5 := mo.keep kx
  obtain ⟨H6, c6, g6⟩ := F28.ok p5
  have n6 := g6.next
  have gp6 : H6.get H.next = .row p.cells true := by rw [g6.get _ (by omega)]; exact gp5
  have gm6 : H6.get H4.next = .row m.cells true := by rw [g6.get _ (by omega)]; exact gm5
  have p6 := p5.keep g6
  have m6 := m5.keep g6
  have s6 := (((s2.keep g3).keep g4).keep kx).keep g6
  have bm : IsB m.v.data := by rw [hm]; exact decV_data bE
  by_cases may : mayP p.v
  · rw [if_pos may] at hm c4
    rw [if_pos may, if_pos may] at c3
    rw [dec_enc may] at hm c4
    simp only at hm c4
    obtain ⟨H7, c7, g7⟩ := F44.ok p6 m6 bp bm
    have n7 := g7.next
    have gp7 : H7.get H.next = .row p.cells true := by rw [g7.get _ (by omega)]; exact gp6
    have p7 := p6.keep g7
    obtain ⟨a8, k8, H8, c8, o8, g8⟩ := F21.ok p7.path (by have := p7.ps; omega)
    have n8 := g8.next
    have gp8 : H8.get H.next = .row p.cells true := by rw [g8.get _ (by omega)]; exact gp7
    have lb : (backL p.v.path).length ≤ 60 := by unfold backL; split <;> simp; omega
    obtain ⟨a9, k9, H9, c9, o9, g9⟩ := F21.ok o8.sl (by omega)
    have gp9 : H9.get H.next = .row p.cells true := by rw [g9.get _ (by omega)]; exact gp8
    have p9 := (p7.keep g8).keep g9
    have bb := back_back may.2.2.2.2.2.1
    rw [bb] at c9 o9
    have c10 := F25.ok o9.sl p9.path (by have := p9.ps; omega)
    obtain ⟨H', z⟩ := l1 (((s6.keep g7).keep g8).keep g9) hb (by omega)
    refine ⟨H', L0_step ?_⟩
    rw [if_neg (by simp)]
    refine ⟨_, _, _, _, _, _, _, _, _, _, rldAll g2, _, _, _, _, _, c3, _, _, _, _, _, _, _, _, _, _, _, _, c4, _, e5, X5, w5, _, _, _, _, _, _, _, _, _, _, rldAll gp5, _, _, c6, ?_⟩
    rw [if_pos (by simp [may]), if_pos rfl, if_pos rfl]
    refine ⟨_, _, _, _, _, _, _, _, _, _, rldAll gp6, _, _, _, _, _, _, _, _, _, _, rldAll gm6, _, _, c7, ?_⟩
    rw [if_pos (by simp [hm])]
    refine ⟨_, _, _, rldc' gp7 4, _, _, _, _, c8, _, _, _, _, c9, _, _, _, rldc' gp7 4, _, _, c10, rldc' gp8 4, rldc' gp9 4, ?_⟩
    simp only [decide_true, Bool.not_true]
    exact z
  · rw [if_neg may, if_neg may] at c3
    rw [if_neg may] at c4
    obtain ⟨H', z⟩ := l1 s6 hb (by omega)
    refine ⟨H', L0_step ?_⟩
    rw [if_neg (by simp)]
    refine ⟨_, _, _, _, _, _, _, _, _, _, rldAll g2, _, _, _, _, _, c3, _, _, _, _, _, _, _, _, _, _, _, _, c4, _, e5, X5, w5, _, _, _, _, _, _, _, _, _, _, rldAll gp5, _, _, c6, ?_⟩
    rw [if_pos (by simp [may]), if_neg (by decide)]
    exact z
theorem law {H : Heap} {ds : List (List Value)} (h : HoldsAll H [TPk, .slice (.int .u8) 1] ds) : ∃ H', Cr 12 (vals [TPk, .slice (.int .u8) 1] ds) H = some (.bool true, H') := by
  obtain ⟨d0, _, rfl, h0, h⟩ := h.cons
  obtain ⟨d1, _, rfl, h1, h⟩ := h.cons
  obtain rfl := h.nil
  obtain ⟨p, rfl, hp, bp⟩ := pkOf h0
  obtain ⟨a, n, k, xs, rfl, s, b, w⟩ := h1.ints
  exact ok hp bp s (IsB.of w)
end F12
end Go.X
