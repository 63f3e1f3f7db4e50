/- The law RouteLife. -/
import Derived.Test.YtdnokmjobpbhhaaXzLr4
set_option linter.unusedVariables false
set_option linter.unusedSimpArgs false
set_option maxRecDepth 20000
namespace Go.X
open Go Go.RowKit Go.Proofs
theorem stepV_may {v : PV} {me : Int} (hm : mayP v) (hn : nodeP me) (hl : v.l ≠ 0) : stepV v me = ({ v with l := v.l - 1 }, 0) := by
  unfold stepV; rw [if_neg (fun c => c ⟨hm, hn⟩), if_neg hl]
theorem stepV_0 {v : PV} {me : Int} (hm : mayP v) (hn : nodeP me) (hl : v.l = 0) : stepV v me = (pv0, 11) := by
  unfold stepV; rw [if_neg (fun c => c ⟨hm, hn⟩), if_pos hl]
abbrev TPk : Ty := .strct (.pair (.int .i64) (.pair (.int .i64) (.pair (.int .i64) (.pair (.int .i64) (.pair (.slice (.int .i64) 8) (.pair (.slice (.int .u8) 1) .unit))))))
theorem pkOf {H : Heap} {vs : List Value} (h : Holds H TPk vs) : ∃ p : Pk, vs = p.cells ∧ (PkOk H p ∧ IsB p.v.data) := by
  obtain ⟨_, _, rfl, ⟨a, rfl, _⟩, _, _, rfl, ⟨b, rfl, _⟩, _, _, rfl, ⟨c, rfl, _⟩, _, _, rfl, ⟨d, rfl, _⟩, _, _, rfl, hs, _, _, rfl, ht, rfl⟩ := h
  obtain ⟨x, n, k, xs, rfl, s, l, w⟩ := hs.ints
  obtain ⟨y, m, j, ys, rfl, s2, l2, w2⟩ := ht.ints
  have e1 := s.ln
  have e2 := s2.ln
  subst e1 e2
  exact ⟨⟨⟨a, b, c, d, xs, ys⟩, x, k, y, j⟩, rfl, ⟨s, s2, by show xs.length ≤ _; omega, by show ys.length ≤ _; omega⟩, IsB.of w2⟩
theorem ix_next {xs : List Int} {me : Int} (hn : xs.Nodup) (h0 : ¬ix xs me < 0) (h1 : ¬ix xs me = (xs.length : Int) - 1) : ix xs (xs.getD (ix xs me + 1).toNat 0) = ix xs me + 1 := by
  have hl := ix_le xs me
  have := ix_nodup xs (ix xs me + 1).toNat _ hn (getD_some (by omega))
  rw [this]; omega
namespace F6
theorem ok {H : Heap} {p : Pk} (h : PkOk H p) (me : Int) : ∃ H', Cr 6 [p.agg, .int .i64 me] H = some (.bool true, H') := by
  obtain ⟨H1, e1, n1, g1, k1⟩ := one H p.cells
  have h1 := h.keep k1
  obtain ⟨H2, c2, p2⟩ := F27.ok (H := H1) (p := p)
  have g2 : H2.get H.next = .row p.cells true := by rw [p2.get _ (by omega)]; exact g1
  have h2 := h1.keep p2
  have hn2 := p2.next
  have aw : ∀ X, ∃ H', L0 me H.next 0 true X (.bool true, H') := fun X => by
    obtain ⟨H', c, _⟩ := F20.ok X
    refine ⟨H', L0_step ?_⟩
    rw [if_pos rfl]
    exact ⟨_, _, c, rfl⟩
  by_cases hl : ¬(p.v.path.length ≤ 60 ∧ p.v.data.length ≤ 200)
  · obtain ⟨H', z⟩ := aw H2
    refine ⟨H', call ⟨_, e1, _, _, _, _, _, _, _, _, _, _, rldAll g1, _, _, c2, ?_⟩⟩
    rw [if_neg (by simpa using hl)]
    exact z
  replace hl := Classical.not_not.1 hl
  obtain ⟨H3, c3, p3⟩ := F28.ok h2
  have g3 : H3.get H.next = .row p.cells true := by rw [p3.get _ (by omega)]; exact g2
  have h3 := h2.keep p3
  have hn3 := p3.next
  have go : ∀ r, (if mayP p.v ∧ nodeP me then L0 me H.next 0 false H3 r else L0 me H.next 0 true H3 r) → Cr 6 [p.agg, .int .i64 me] H = some r := by
    intro r hr
    refine call ⟨_, e1, _, _, _, _, _, _, _, _, _, _, rldAll g1, _, _, c2, ?_⟩
    rw [if_pos (by simpa using hl)]
    refine ⟨_, _, _, _, _, _, _, _, _, _, rldAll g2, _, _, c3, ?_⟩
    by_cases hm : mayP p.v
    · rw [if_pos (by simpa using hm)]
      by_cases hne : me < 0
      · rw [if_pos hne]
        rw [if_neg (fun c => by have := c.2.1; omega)] at hr
        exact hr
      · rw [if_neg hne]
        by_cases h15 : me > 15
        · rw [decide_eq_true h15]
          rw [if_neg (fun c => by have := c.2.2; omega)] at hr
          exact hr
        · rw [decide_eq_false h15]
          rw [if_pos ⟨hm, by omega, by omega⟩] at hr
          exact hr
    · rw [if_neg (by simpa using hm)]
      rw [if_neg (fun c => hm c.1)] at hr
      exact hr
  by_cases hmn : ¬(mayP p.v ∧ nodeP me)
  · obtain ⟨H', z⟩ := aw H3
    exact ⟨H', go _ (by rw [if_neg hmn]; exact z)⟩
  replace hmn := Classical.not_not.1 hmn
  suffices ∃ H', L0 me H.next 0 false H3 (.bool true, H') by
    obtain ⟨H', z⟩ := this
    exact ⟨H', go _ (by rw [if_pos hmn]; exact z)⟩
  obtain ⟨hm, hno⟩ := hmn
  obtain ⟨u, H4, c4, hu, o4, p4⟩ := F24.ok h3 me
  obtain ⟨H5, e5, n5, g5, k5⟩ := one H4 pk0.cells
  let X5 := H5.set H4.next (.row u.cells true)
  have w5 : stc H5 H4.next 0 u.cells = some X5 := rstAll g5 rfl
  have gu5 : X5.get H4.next = .row u.cells true := by simp [X5]
  have kx5 : Keep H4.next H4 X5 := k5.trans (Keep.set _ (Nat.le_refl _))
  have hn4 := p4.next
  have gp5 : X5.get H.next = .row p.cells true := by rw [kx5.get _ (by omega), p4.get _ (by omega)]; exact g3
  have h5 := (h3.keep p4).keep kx5
  have u5 := (o4.keep kx5)
  have nx5 : X5.next = H4.next + 1 := n5
  obtain ⟨d, H6, c6, hd, o6, p6⟩ := F26.ok h5 me
  obtain ⟨H7, e7, n7, g7, k7⟩ := one H6 pk0.cells
  let X7 := H7.set H6.next (.row d.cells true)
  have w7 : stc H7 H6.next 0 d.cells = some X7 := rstAll g7 rfl
  have gd7 : X7.get H6.next = .row d.cells true := by simp [X7]
  have kx7 : Keep H6.next H6 X7 := k7.trans (Keep.set _ (Nat.le_refl _))
  have hn6 := p6.next
  have gp7 : X7.get H.next = .row p.cells true := by rw [kx7.get _ (by omega), p6.get _ (by omega)]; exact gp5
  have gu7 : X7.get H4.next = .row u.cells true := by rw [kx7.get _ (by omega), p6.get _ (by omega)]; exact gu5
  have h7 := (h5.keep p6).keep kx7
  have u7 := (u5.keep p6).keep kx7
  have d7 := o6.keep kx7
  -- up to the tests
  have ps := h7.ps
  have pl := hm.2.2.2.2.1
  by_cases hl0 : p.v.l = 0
  · have es := stepV_0 hm hno hl0
    have eu : (upV p.v me).2 = 11 := by unfold upV; simp only [es]; rw [if_pos (.inl (by decide))]
    have ed : (downV p.v me).2.2 = 11 := by unfold downV; simp only [es]; rw [if_pos (by decide)]
    obtain ⟨H', c, _⟩ := F20.ok X7
    refine ⟨H', L0_step ?_⟩
    rw [if_neg (by simp)]
    refine ⟨_, _, _, _, _, _, _, _, _, _, rldAll g3, _, _, _, _, _, _, _, _, _, _, _, _, c4, _, e5, _, w5, _, _, _, _, _, _, _, _, _, _, rldAll gp5, _, _, _, _, _, _, _, _, _, _, _, _, _, c6, _, e7, _, w7, _, rldc' gp7 3, ?_⟩
    rw [if_pos hl0, if_pos eu, if_pos ed]
    exact ⟨_, _, c, rfl⟩
  · have es := stepV_may hm hno hl0
    have hnd := hm.2.2.2.2.2.1.2.1
    have h16 := hm.2.2.2.2.2.1.2.2
    -- behind all tests
    have l2 : ∃ H', L2 me H.next 0 (upV p.v me).2 (downV p.v me).2.2 false X7 (.bool true, H') := by
      obtain ⟨H', c, _⟩ := F20.ok X7
      refine ⟨H', L2_step ?_⟩
      rw [if_neg (by simp)]
      refine ⟨_, _, _, rldc' gp7 4, _, _, F23.ok h7.path (by omega) _, ?_⟩
      by_cases hi : ix p.v.path me ≥ 0
      · have eu : (upV p.v me).2 = 0 := by unfold upV; simp only [es]; rw [if_pos (.inr ((ix_mem _ _).1 hi))]
        have hle := ix_le p.v.path me
        rw [if_pos hi, if_pos (by rw [eu]; rfl)]
        refine ⟨_, _, _, rldc' gp7 4, ?_⟩
        have ed : ((downV p.v me).2.2 == 0) = decide (IntKind.wrap .i64 (ix p.v.path me + 1) < (p.v.path.length : Int)) := by
          rw [i64 (by omega) (by omega)]
          unfold downV; simp only [es]
          rw [if_neg (by decide)]
          by_cases hx : ix p.v.path me < 0 ∨ ix p.v.path me = (p.v.path.length : Int) - 1
          · rw [if_pos hx, decide_eq_false (by omega)]; rfl
          · rw [if_neg hx, decide_eq_true (by omega)]; rfl
        rw [if_pos (by rw [ed, beq_self_eq_true])]
        exact ⟨_, _, c, rfl⟩
      · rw [if_neg hi]
        refine ⟨_, _, _, rldc' gp7 4, ?_⟩
        have hnm : me ∉ p.v.path := fun c => hi ((ix_mem _ _).2 c)
        have eu : ((upV p.v me).2 == 0) = decide ((p.v.path.length : Int) < 16) := by
          unfold upV; simp only [es]
          rw [if_neg (fun c => by rcases c with c | c; exact c rfl; exact hnm c)]
          by_cases hx : 16 ≤ p.v.path.length
          · rw [if_pos hx, decide_eq_false (by omega)]; rfl
          · rw [if_neg hx, decide_eq_true (by omega)]; rfl
        have ed : ((downV p.v me).2.2 == 0) = false := by
          unfold downV; simp only [es]
          rw [if_neg (by decide), if_pos (.inl (by omega))]; rfl
        rw [if_pos (by rw [eu, beq_self_eq_true]), if_pos (by rw [ed]; rfl)]
        exact ⟨_, _, c, rfl⟩
    have l1 : ∃ H', L1 me H.next 0 (upV p.v me).2 H6.next 0 (downV p.v me).2.1 (downV p.v me).2.2 false X7 (.bool true, H') := by
      obtain ⟨H', z⟩ := l2
      refine ⟨H', L1_step ?_⟩
      rw [if_neg (by simp)]
      by_cases hf : (downV p.v me).2.2 = 0
      · rw [if_pos hf]
        have hx : ¬(ix p.v.path me < 0 ∨ ix p.v.path me = (p.v.path.length : Int) - 1) := by
          intro c
          unfold downV at hf
          simp only [es] at hf
          rw [if_neg (by decide), if_pos c] at hf
          cases hf
        have ed : downV p.v me = ({ p.v with l := p.v.l - 1 }, p.v.path.getD (ix p.v.path me + 1).toNat 0, 0) := by
          unfold downV; simp only [es]
          rw [if_neg (by decide), if_neg hx]
        have hdv : d.v = { p.v with l := p.v.l - 1 } := by rw [hd, ed]
        have hto : (downV p.v me).2.1 = p.v.path.getD (ix p.v.path me + 1).toNat 0 := by rw [ed]
        have dp : d.v.path = p.v.path := by rw [hdv]
        have hle := ix_le p.v.path me
        refine ⟨_, rldc' gd7 3, _, rldc' gp7 3, ?_⟩
        rw [if_pos (by rw [hdv, i64 (by omega) (by omega)])]
        refine ⟨_, _, _, rldc' gd7 4, _, _, _, rldc' gp7 4, _, _, F25.ok d7.path.sl h7.path (by have := d7.ps; omega), ?_⟩
        rw [if_pos (by simp [dp])]
        refine ⟨_, rldc' gd7 2, _, rldc' gp7 2, ?_⟩
        rw [if_pos (by rw [hdv])]
        refine ⟨_, _, _, rldc' gp7 4, _, _, F23.ok h7.path (by omega) _, _, _, _, rldc' gp7 4, _, _, F23.ok h7.path (by omega) _, rldc' gp7 4, ?_⟩
        rw [hto, ix_next hnd (fun c => hx (.inl c)) (fun c => hx (.inr c)), i64 (by omega) (by omega), beq_self_eq_true]
        exact z
      · rw [if_neg hf]
        exact z
    obtain ⟨H', z⟩ := l1
    refine ⟨H', L0_step ?_⟩
    rw [if_neg (by simp)]
    refine ⟨_, _, _, _, _, _, _, _, _, _, rldAll g3, _, _, _, _, _, _, _, _, _, _, _, _, c4, _, e5, _, w5, _, _, _, _, _, _, _, _, _, _, rldAll gp5, _, _, _, _, _, _, _, _, _, _, _, _, _, c6, _, e7, _, w7, _, rldc' gp7 3, ?_⟩
    rw [if_neg hl0]
    by_cases he : (upV p.v me).2 = 0
    · have euv : u.v.f = p.v.f ∧ u.v.t = p.v.t ∧ u.v.n = p.v.n ∧ u.v.l = p.v.l - 1 ∧ u.v.data = p.v.data ∧ me ∈ u.v.path ∧ u.v.path.length ≤ p.v.path.length + 1 := by
        rw [hu]
        unfold upV at he ⊢
        simp only [es] at he ⊢
        by_cases hmem : me ∈ p.v.path
        · rw [if_pos (.inr hmem)]
          exact ⟨rfl, rfl, rfl, rfl, rfl, hmem, Nat.le_succ _⟩
        · rw [if_neg (fun c => by rcases c with c | c; exact c rfl; exact hmem c)] at he ⊢
          by_cases hx : 16 ≤ p.v.path.length
          · rw [if_pos hx] at he; cases he
          · rw [if_neg hx]
            exact ⟨rfl, rfl, rfl, rfl, rfl, by simp, by simp⟩
      obtain ⟨q1, q2, q3, q4, q5, q6, q7⟩ := euv
      rw [if_pos he]
      refine ⟨_, rldc' gu7 3, _, rldc' gp7 3, ?_⟩
      rw [if_pos (by rw [q4, i64 (by omega) (by omega)])]
      refine ⟨_, rldc' gu7 0, _, rldc' gp7 0, ?_⟩
      rw [if_pos q1]
      refine ⟨_, rldc' gu7 1, _, rldc' gp7 1, ?_⟩
      rw [if_pos q2]
      refine ⟨_, rldc' gu7 2, _, rldc' gp7 2, ?_⟩
      rw [if_pos q3]
      refine ⟨_, _, _, rldc' gu7 5, _, u7.data.sl.str, _, _, _, rldc' gp7 5, _, h7.data.str, ?_⟩
      rw [if_pos (by rw [q5])]
      refine ⟨_, _, _, rldc' gu7 4, _, _, F23.ok u7.path.sl (by have := u7.ps; omega) _, ?_⟩
      rw [if_neg (by have := (ix_mem u.v.path me).2 q6; omega)]
      refine ⟨_, _, _, rldc' gu7 4, _, _, _, rldc' gp7 4, ?_⟩
      rw [i64 (by omega) (by omega), decide_eq_false (by omega)]
      exact z
    · rw [if_neg he]
      exact z
theorem law {H : Heap} {ds : List (List Value)} (h : HoldsAll H [TPk, .int .i64] ds) : ∃ H', Cr 6 (vals [TPk, .int .i64] ds) H = some (.bool true, H') := by
  obtain ⟨d0, _, rfl, h0, h⟩ := h.cons
  obtain ⟨d1, _, rfl, h1, h⟩ := h.cons
  obtain rfl := h.nil
  obtain ⟨p, rfl, hp, _⟩ := pkOf h0
  obtain ⟨me, rfl, _⟩ := h1.i
  exact ok hp me
end F6
end Go.X
