/- What the functions of the packets come to: down; the laws RouteTurns, RouteLife. -/
import Derived.Test.YtdnokmjobpbhhaaXzLr3
import Derived.Test.YtdnokmjobpbhhaaXzTcL
set_option linter.unusedVariables false
set_option linter.unusedSimpArgs false
set_option maxRecDepth 20000
namespace Go.X
open Go Go.RowKit Go.Proofs
namespace F26
theorem ok {H : Heap} {p : Pk} (h : PkOk H p) (me : Int) : ∃ q H', Cr 26 [p.agg, .int .i64 me] H = some (.tuple #[q.agg, .int .i64 (downV p.v me).2.1, .int .i64 (downV p.v me).2.2], H') ∧ q.v = (downV p.v me).1 ∧ PkOwn H.next H' q ∧ Keep H.next H H' := by
  obtain ⟨H1, H2, e1, e2, n1, n2, g1, g2, g3, k1, k2⟩ := two H p.cells pk0.cells
  have h2 := h.keep k2
  obtain ⟨q, H3, c3, hq, o3, p3⟩ := F58.ok h2 me
  have hn3 := p3.next
  have gp3 : H3.get H.next = .row p.cells true := by rw [p3.get _ (by omega)]; exact g2
  have gz3 : H3.get H1.next = .row pk0.cells true := by rw [p3.get _ (by omega)]; exact g3
  have k3 : Keep H.next H H3 := k2.trans (p3.weak (by omega))
  let X4 := H3.set H.next (.row q.cells true)
  have w4 : stc H3 H.next 0 q.cells = some X4 := rstAll gp3 rfl
  have g4 : X4.get H.next = .row q.cells true := by simp [X4]
  have gz4 : X4.get H1.next = .row pk0.cells true := by
    show (H3.set _ _).get _ = _
    rw [Heap.get_set_ne _ _ _ _ (by omega)]; exact gz3
  have o4 : PkOwn H2.next X4 q := o3.set (by omega) _
  have k4 : Keep H.next H X4 := k3.trans (Keep.set _ (Nat.le_refl _))
  let X5 := X4.set H1.next (.row q.cells true)
  have w5 : stc X4 H1.next 0 q.cells = some X5 := rstAll gz4 rfl
  have g5 : X5.get H1.next = .row q.cells true := by simp [X5]
  have gq5 : X5.get H.next = .row q.cells true := by
    show (X4.set _ _).get _ = _
    rw [Heap.get_set_ne _ _ _ _ (by omega)]; exact g4
  have o5 : PkOwn H2.next X5 q := o4.set (by omega) _
  have k5 : Keep H.next H X5 := k4.trans (Keep.set _ (by omega))
  have ps := o4.ps
  unfold downV
  simp only
  by_cases he : (stepV p.v me).2 = 0
  · rw [if_neg (fun c => c he)]
    have go : ∀ r, (if ix q.v.path me < 0 then L0 H.next 0 H1.next 0 (ix q.v.path me) true X4 r else L0 H.next 0 H1.next 0 (ix q.v.path me) (ix q.v.path me == IntKind.wrap .i64 ((q.v.path.length : Int) - 1)) X4 r) → Cr 26 [p.agg, .int .i64 me] H = some r := by
      intro r hr
      refine call ⟨_, e1, _, e2, _, _, _, _, _, _, _, _, _, _, rldAll g2, _, _, _, _, _, _, _, _, _, _, _, _, c3, _, w4, ?_⟩
      rw [if_pos he]
      refine ⟨_, _, _, rldc' g4 4, _, _, F60.ok o4.path.sl (by omega) _, ?_⟩
      by_cases hi : ix q.v.path me < 0
      · rw [if_pos hi] at hr ⊢; exact hr
      · rw [if_neg hi] at hr ⊢; exact ⟨_, _, _, rldc' g4 4, hr⟩
    rw [← hq]
    have ew : IntKind.wrap .i64 ((q.v.path.length : Int) - 1) = (q.v.path.length : Int) - 1 := i64 (by omega) (by omega)
    by_cases hi : ix q.v.path me < 0 ∨ ix q.v.path me = (q.v.path.length : Int) - 1
    · rw [if_pos hi]
      have z : L0 H.next 0 H1.next 0 (ix q.v.path me) true X4 (.tuple #[pk0.agg, .int .i64 0, .int .i64 6], X4.set H1.next (.row pk0.cells true)) := by
        refine L0_step ?_
        rw [if_pos rfl]
        exact ⟨_, rstAll gz4 rfl, _, _, _, _, _, _, _, _, _, _, rldAll (vs := pk0.cells) (own := true) (by simp [pk0, pv0]), rfl⟩
      refine ⟨pk0, _, go _ ?_, rfl, pk0_own _ _, k4.trans (Keep.set (.row pk0.cells true) (show H.next ≤ H1.next by omega))⟩
      by_cases hi0 : ix q.v.path me < 0
      · rw [if_pos hi0]; exact z
      · rw [if_neg hi0, ew, beq_iff_eq.2 (hi.resolve_left hi0)]; exact z
    · rw [if_neg hi]
      have hl := ix_le q.v.path me
      obtain ⟨b, o, hb⟩ := o4.path.sl.at (by omega)
      have e1' : IntKind.wrap .i64 (ix q.v.path me + 1) = (((ix q.v.path me + 1).toNat : Nat) : Int) := by rw [i64 (by omega) (by omega)]; omega
      have hx := getD_some (xs := q.v.path) (j := (ix q.v.path me + 1).toNat) (by omega)
      have s4 := o4.path.sl
      have s5 := o5.path.sl
      rw [hb] at s4 s5
      refine ⟨q, X5, go _ ?_, rfl, o5.weak (by omega), k5⟩
      rw [if_neg (fun c => hi (.inl c)), ew, show (ix q.v.path me == (q.v.path.length : Int) - 1) = false from beq_eq_false_iff_ne.2 fun c => hi (.inr c)]
      refine L0_step ?_
      rw [if_neg (by simp), e1']
      exact ⟨_, _, _, _, _, _, _, _, _, _, rldAll g4, _, _, _, rldc' g4 4, b, o, hb, by omega, by omega, _, Ints.get s4 hx, X5, w5, rldc' gq5 4, Ints.get s5 hx, _, _, _, _, _, _, _, _, _, _, rldAll g5, rfl⟩
  · rw [if_pos he]
    refine ⟨q, X5, call ⟨_, e1, _, e2, _, _, _, _, _, _, _, _, _, _, rldAll g2, _, _, _, _, _, _, _, _, _, _, _, _, c3, _, w4, ?_⟩, hq, o5.weak (by omega), k5⟩
    rw [if_neg he]
    exact ⟨_, _, _, _, _, _, _, _, _, _, rldAll g4, _, w5, _, _, _, _, _, _, _, _, _, _, rldAll g5, rfl⟩
end F26
namespace F20
theorem ok (H : Heap) : ∃ H', Cr 20 [] H = some (.bool true, H') ∧ Keep H.next H H' := by
  have o1 := OwnI.new (K := .i64) H [3, 2, 0]
  have k1 : Keep H.next H (H.push (.row [.int .i64 3, .int .i64 2, .int .i64 0] true)) := Keep.push _ (Nat.le_refl _)
  generalize E1 : H.push (.row [.int .i64 3, .int .i64 2, .int .i64 0] true) = H1 at k1
  rw [show H.push (.row (List.map (Value.int .i64) [3, 2, 0]) true) = H1 from E1] at o1
  have n1 := k1.next
  obtain ⟨a2, m2, H2, c2, o2, g2⟩ := F21.ok o1.sl (by simp)
  have eb : backL [3, 2, 0] = [0, 2, 3] := by decide
  rw [eb] at c2 o2
  have n2 := g2.next
  have o3 := OwnI.new (K := .i64) H2 [0, 2, 3]
  have k3 : Keep H2.next H2 (H2.push (.row [.int .i64 0, .int .i64 2, .int .i64 3] true)) := Keep.push _ (Nat.le_refl _)
  generalize E3 : H2.push (.row [.int .i64 0, .int .i64 2, .int .i64 3] true) = H3 at k3
  rw [show H2.push (.row (List.map (Value.int .i64) [0, 2, 3]) true) = H3 from E3] at o3
  have o4 := OwnI.new (K := .u8) H3 [5]
  have k4 : Keep H3.next H3 (H3.push (.row [.int .u8 5] true)) := Keep.push _ (Nat.le_refl _)
  generalize E4 : H3.push (.row [.int .u8 5] true) = H4 at k4
  rw [show H3.push (.row (List.map (Value.int .u8) [5]) true) = H4 from E4] at o4
  let p : Pk := ⟨⟨1, 3, 0, 2, [0, 2, 3], [5]⟩, some ⟨H2.next, 0, none⟩, UNK 1, some ⟨H3.next, 0, none⟩, UNK 1⟩
  have hp : PkOk H4 p := ⟨(o3.keep k4).sl, o4.sl, by simp [p], by simp [p]⟩
  obtain ⟨q, H5, c5, hq, o5, g5⟩ := F26.ok hp 2
  have ed : downV ⟨1, 3, 0, 2, [0, 2, 3], [5]⟩ 2 = (⟨1, 3, 0, 1, [0, 2, 3], [5]⟩, 3, 0) := by decide
  have hq : q.v = (downV ⟨1, 3, 0, 2, [0, 2, 3], [5]⟩ 2).1 := hq
  have c5 : Cr 26 [p.agg, .int .i64 2] H4 = some (.tuple #[q.agg, .int .i64 (downV ⟨1, 3, 0, 2, [0, 2, 3], [5]⟩ 2).2.1, .int .i64 (downV ⟨1, 3, 0, 2, [0, 2, 3], [5]⟩ 2).2.2], H5) := c5
  rw [ed] at c5 hq
  simp only at c5 hq
  obtain ⟨H6, e6, n6, g6, k6⟩ := one H5 pk0.cells
  let X7 := H6.set H5.next (.row q.cells true)
  have w7 : stc H6 H5.next 0 q.cells = some X7 := rstAll g6 rfl
  have g7 : X7.get H5.next = .row q.cells true := by simp [X7]
  have k67 : Keep H5.next H5 X7 := k6.trans (Keep.set _ (Nat.le_refl _))
  have s7 := ((((o2.sl.keep k3).keep k4).keep g5).keep k67)
  obtain ⟨b, o, rfl⟩ := s7.at (by simp)
  have n3 := k3.next
  have n4 := k4.next
  have n5 := g5.next
  refine ⟨X7, call ⟨_, E1.symm, _, _, _, _, c2, _, E3.symm, _, E4.symm, _, _, _, _, _, _, _, _, _, _, _, _, _, c5, _, e6, X7, w7, ?_⟩, ((((k1.trans (g2.weak n1)).trans (k3.weak (by omega))).trans (k4.weak (by omega))).trans (g5.weak (by omega))).trans (k67.weak (by omega))⟩
  rw [if_pos rfl]
  refine ⟨b, o, rfl, by omega, by simp, _, by simpa using Ints.get s7 (i := 0) rfl, ?_⟩
  rw [if_pos rfl]
  refine ⟨by omega, by simp, _, by simpa using Ints.get s7 (i := 2) rfl, ?_⟩
  rw [if_pos rfl, if_pos rfl]
  refine ⟨_, rldc' g7 3, ?_⟩
  rw [hq]
  rfl
end F20
namespace F27
theorem ok {H : Heap} {p : Pk} : ∃ H', Cr 27 [p.agg] H = some (.bool (decide (p.v.path.length ≤ 60 ∧ p.v.data.length ≤ 200)), H') ∧ Keep H.next H H' := by
  obtain ⟨H1, e1, n1, g1, k1⟩ := one H p.cells
  refine ⟨H1, call ⟨_, e1, _, _, _, rldc' g1 4, ?_⟩, k1⟩
  by_cases c : p.v.path.length ≤ 60
  · rw [if_pos (by omega)]
    refine ⟨_, _, _, rldc' g1 5, ?_⟩
    rw [show decide ((p.v.data.length : Int) ≤ 200) = decide (p.v.path.length ≤ 60 ∧ p.v.data.length ≤ 200) from decide_eq_decide.2 ⟨fun h => ⟨c, by omega⟩, fun h => by omega⟩]
  · rw [if_neg (by omega), decide_eq_false fun h => c h.1]
end F27
namespace F25
theorem l0 {H : Heap} {a0 a1 : Option Addr} {n k0 k1 : Nat} {xs ys : List Int} (h0 : Ints .i64 H a0 n k0 xs) (h1 : Ints .i64 H a1 n k1 ys) (hn : n ≤ 140737488355328) : ∀ (d j : Nat), j + d = n → L0 a0 n k0 a1 n k1 (n : Int) (j : Int) H (.bool (decide (xs.drop j = ys.drop j)), H) := by
  have hl := h0.ln
  have hl1 := h1.ln
  intro d
  induction d with
  | zero =>
    intro j hj
    refine L0_step ?_
    rw [if_neg (by omega), List.drop_eq_nil_of_le (by omega), List.drop_eq_nil_of_le (by omega)]
    rfl
  | succ d ih =>
    intro j hj
    obtain ⟨b0, o0, rfl⟩ := h0.at (by omega)
    obtain ⟨b1, o1, rfl⟩ := h1.at (by omega)
    have hx := getD_some (xs := xs) (j := j) (by omega)
    have hy := getD_some (xs := ys) (j := j) (by omega)
    refine L0_step ?_
    rw [if_pos (by omega)]
    refine ⟨b0, o0, rfl, by omega, by omega, _, Ints.get h0 hx, b1, o1, rfl, by omega, by omega, _, Ints.get h1 hy, ?_⟩
    have ed : ∀ zs : List Int, j < zs.length → zs.drop j = zs.getD j 0 :: zs.drop (j + 1) := fun zs hz => by rw [List.drop_eq_getElem_cons hz]; simp [List.getD, hz]
    rw [ed xs (by omega), ed ys (by omega)]
    by_cases e : xs.getD j 0 = ys.getD j 0
    · rw [if_pos e, i64 (by omega) (by omega), e]
      simp only [List.cons.injEq, true_and]
      exact_mod_cast ih (j + 1) (by omega)
    · rw [if_neg e]
      simp only [List.cons.injEq, e, false_and, decide_false]
theorem ok {H : Heap} {a0 a1 : Option Addr} {n m k0 k1 : Nat} {xs ys : List Int} (h0 : Ints .i64 H a0 n k0 xs) (h1 : Ints .i64 H a1 m k1 ys) (hn : n ≤ 140737488355328) : Cr 25 [.slice a0 n k0, .slice a1 m k1] H = some (.bool (decide (xs = ys)), H) := by
  have hl := h0.ln
  have hl1 := h1.ln
  refine call ?_
  by_cases e : n = m
  · subst e
    rw [if_pos rfl]
    simpa using l0 h0 h1 hn n 0 (by omega)
  · rw [if_neg (by omega), decide_eq_false fun h => e (by rw [← hl, ← hl1, h])]
end F25
namespace F4
theorem l0 {G : Heap} {a b : Option Addr} {n k k2 : Nat} {xs : List Int} (hs : Ints .i64 G a n k xs) (hb : Ints .i64 G b n k2 xs.reverse) (hn : n ≤ 60) : ∀ (d j : Nat), j + d = n → ∃ H', L0 b n k2 a n k (n : Int) (j : Int) G (.bool true, H') := by
  have hl := hs.ln
  intro d
  induction d with
  | zero =>
    intro j hj
    obtain ⟨H', c, _⟩ := F20.ok G
    refine ⟨H', L0_step ?_⟩
    rw [if_neg (by omega)]
    exact ⟨_, _, c, rfl⟩
  | succ d ih =>
    intro j hj
    obtain ⟨b0, o0, rfl⟩ := hs.at (by omega)
    obtain ⟨b1, o1, rfl⟩ := hb.at (by omega)
    have hx := getD_some (xs := xs) (j := j) (by omega)
    have e1 : IntKind.wrap .i64 (IntKind.wrap .i64 ((n : Int) - 1) - (j : Int)) = ((n - 1 - j : Nat) : Int) := by rw [i64 (n := (n : Int) - 1) (by omega) (by omega), i64 (by omega) (by omega)]; omega
    have hy : xs.reverse[n - 1 - j]? = some (xs.getD j 0) := by rw [List.getElem?_reverse (by omega), hl, show n - 1 - (n - 1 - j) = j by omega]; exact hx
    obtain ⟨H', z⟩ := ih (j + 1) (by omega)
    refine ⟨H', L0_step ?_⟩
    rw [if_pos (by omega), e1]
    refine ⟨b0, o0, rfl, by omega, by omega, _, Ints.get hs hx, b1, o1, rfl, by omega, by omega, _, Ints.get hb hy, ?_⟩
    rw [if_pos rfl, i64 (by omega) (by omega)]
    exact_mod_cast z
theorem ok {H : Heap} {a : Option Addr} {n k : Nat} {xs : List Int} (hs : Ints .i64 H a n k xs) : ∃ H', Cr 4 [.slice a n k] H = some (.bool true, H') := by
  have hl := hs.ln
  by_cases h : (n : Int) > 60
  · obtain ⟨H', c, _⟩ := F20.ok H
    refine ⟨H', call ?_⟩
    rw [if_pos h]
    exact ⟨_, _, c, rfl⟩
  · obtain ⟨b, k2, H2, c2, o2, g2⟩ := F21.ok hs (by omega)
    have s2 := hs.keep g2
    by_cases hp : pathP xs
    · have eb : backL xs = xs.reverse := if_pos hp
      rw [eb, List.length_reverse, hl] at c2 o2
      obtain ⟨H', z⟩ := l0 s2 o2.sl (by omega) n 0 (by omega)
      refine ⟨H', call ?_⟩
      rw [if_neg h]
      refine ⟨_, _, _, _, c2, _, _, F22.ok s2 (by omega), ?_⟩
      rw [if_pos (by simpa using hp), if_pos rfl]
      exact z
    · have eb : backL xs = [] := if_neg hp
      rw [eb] at c2
      obtain ⟨H', c, _⟩ := F20.ok H2
      refine ⟨H', call ?_⟩
      rw [if_neg h]
      refine ⟨_, _, _, _, c2, _, _, F22.ok s2 (by omega), ?_⟩
      rw [if_neg (by simpa using hp), if_pos (by simp)]
      exact ⟨_, _, c, rfl⟩
theorem law {H : Heap} {ds : List (List Value)} (h : HoldsAll H [.slice (.int .i64) 8] ds) : ∃ H', Cr 4 (vals [.slice (.int .i64) 8] ds) H = some (.bool true, H') := by
  obtain ⟨d0, _, rfl, h0, h⟩ := h.cons
  obtain rfl := h.nil
  obtain ⟨a, n, k, xs, rfl, s, b, w⟩ := h0.ints
  exact ok s
end F4
end Go.X
