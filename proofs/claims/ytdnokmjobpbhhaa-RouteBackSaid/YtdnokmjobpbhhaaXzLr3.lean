/- What the functions of the packets come to: up, down. -/
import Derived.Test.YtdnokmjobpbhhaaXzLr2
set_option linter.unusedVariables false
set_option linter.unusedSimpArgs false
set_option maxRecDepth 20000
namespace Go.X
open Go Go.RowKit Go.Proofs
def upV (v : PV) (me : Int) : PV × Int :=
  let s := stepV v me
  if s.2 ≠ 0 ∨ me ∈ s.1.path then s else if 16 ≤ s.1.path.length then (pv0, 5) else ({ s.1 with path := s.1.path ++ [me] }, 0)
def downV (v : PV) (me : Int) : PV × Int × Int :=
  let s := stepV v me
  if s.2 ≠ 0 then (s.1, 0, s.2) else if ix s.1.path me < 0 ∨ ix s.1.path me = (s.1.path.length : Int) - 1 then (pv0, 0, 6) else (s.1, s.1.path.getD (ix s.1.path me + 1).toNat 0, 0)
namespace F24
theorem ok {H : Heap} {p : Pk} (h : PkOk H p) (me : Int) : ∃ q H', Cr 24 [p.agg, .int .i64 me] H = some (.tuple #[q.agg, .int .i64 (upV p.v me).2], H') ∧ q.v = (upV p.v me).1 ∧ PkOwn H.next H' q ∧ Keep H.next H H' := by
  obtain ⟨H1, H2, e1, e2, n1, n2, g1, g2, g3, k1, k2⟩ := two H p.cells pk0.cells
  have h2 := h.keep k2
  obtain ⟨q, H3, c3, hq, o3, p3⟩ := F58.ok h2 me
  have hn3 := p3.next
  have gp3 : H3.get H.next = .row p.cells true := by rw [p3.get _ (by omega)]; exact g2
  have gz3 : H3.get H1.next = .row pk0.cells true := by rw [p3.get _ (by omega)]; exact g3
  have k3 : Keep H.next H H3 := k2.trans (p3.weak (by omega))
  let X4 := H3.set H.next (.row q.cells true)
  have w4 : stc H3 H.next 0 q.cells = some X4 := rstAll gp3 rfl
  have g4 : X4.get H.next = .row q.cells true := by simp [X4]
  have gz4 : X4.get H1.next = .row pk0.cells true := by
    show (H3.set _ _).get _ = _
    rw [Heap.get_set_ne _ _ _ _ (by omega)]; exact gz3
  have o4 : PkOwn H2.next X4 q := o3.set (by omega) _
  have k4 : Keep H.next H X4 := k3.trans (Keep.set _ (Nat.le_refl _))
  have hn4 : X4.next = H3.next := rfl
  have go : ∀ r, (if (stepV p.v me).2 = 0 then L0 me H.next 0 H1.next 0 (stepV p.v me).2 (decide (me ∈ q.v.path)) X4 r else L0 me H.next 0 H1.next 0 (stepV p.v me).2 true X4 r) → Cr 24 [p.agg, .int .i64 me] H = some r := by
    intro r hr
    refine call ⟨_, e1, _, e2, _, _, _, _, _, _, _, _, _, _, rldAll g2, _, _, _, _, _, _, _, _, _, _, _, _, c3, _, w4, ?_⟩
    by_cases he : (stepV p.v me).2 = 0
    · rw [if_pos he] at hr ⊢
      exact ⟨_, _, _, rldc' g4 4, _, _, F59.ok o4.path.sl (by have := o4.ps; omega) _, hr⟩
    · rw [if_neg he] at hr ⊢
      exact hr
  unfold upV
  simp only
  have same : ∃ H', L0 me H.next 0 H1.next 0 (stepV p.v me).2 true X4 (.tuple #[q.agg, .int .i64 (stepV p.v me).2], H') ∧ PkOwn H.next H' q ∧ Keep H.next H H' := by
    let X5 := X4.set H1.next (.row q.cells true)
    have g5 : X5.get H1.next = .row q.cells true := by simp [X5]
    refine ⟨X5, L0_step ?_, (o4.set (by omega) _).weak (by omega), k4.trans (Keep.set _ (by omega))⟩
    rw [if_pos rfl]
    exact ⟨_, _, _, _, _, _, _, _, _, _, rldAll g4, _, rstAll gz4 rfl, _, _, _, _, _, _, _, _, _, _, rldAll g5, rfl⟩
  by_cases hs : (stepV p.v me).2 ≠ 0 ∨ me ∈ (stepV p.v me).1.path
  · rw [if_pos hs]
    obtain ⟨H', z, o, kk⟩ := same
    refine ⟨q, H', go _ ?_, hq, o, kk⟩
    by_cases he : (stepV p.v me).2 = 0
    · rw [if_pos he, decide_eq_true (by rw [hq]; exact hs.resolve_left fun c => c he)]; exact z
    · rw [if_neg he]; exact z
  · rw [if_neg hs]
    have he : (stepV p.v me).2 = 0 := Classical.byContradiction fun c => hs (.inl c)
    have hm : me ∉ q.v.path := by rw [hq]; exact fun c => hs (.inr c)
    by_cases h16 : 16 ≤ (stepV p.v me).1.path.length
    · rw [if_pos h16]
      refine ⟨pk0, _, go _ ?_, rfl, pk0_own _ _, k4.trans (Keep.set (.row pk0.cells true) (show H.next ≤ H1.next by omega))⟩
      rw [if_pos he, decide_eq_false hm]
      refine L0_step ?_
      rw [if_neg (by simp)]
      refine ⟨_, _, _, rldc' g4 4, ?_⟩
      rw [if_pos (by rw [hq]; omega)]
      exact ⟨_, rstAll gz4 rfl, _, _, _, _, _, _, _, _, _, _, rldAll (vs := pk0.cells) (own := true) (by simp [pk0, pv0]), rfl⟩
    · rw [if_neg h16]
      rw [← hq] at h16 ⊢
      have on := OwnI.new (K := .i64) X4 [me]
      have k5 : Keep X4.next X4 (X4.push (.row (List.map (Value.int .i64) [me]) true)) := Keep.push _ (Nat.le_refl _)
      obtain ⟨a6, k6, H6, c6, o6, g6, f6⟩ := (o4.path.keep k5).append' (by_ := 8) on.sl (by decide) (by simp; omega) (by simp; omega) (by simp; omega)
      have c6 : papp (X4.push (.row (List.map (Value.int .i64) [me]) true)) 1 8 q.pa q.v.path.length q.pk (some ⟨X4.next, 0, none⟩) 1 (UNK 1) = some ((a6, (q.v.path ++ [me]).length, k6), H6) := by rw [List.length_append]; exact c6
      have o6 : OwnI .i64 H2.next H6 a6 (q.v.path ++ [me]).length k6 (q.v.path ++ [me]) := by rw [List.length_append, OwnI, List.map_append]; exact o6
      have np : ¬In1 q.pa H.next := fun h => by have := (o4.path.lt h).1; omega
      have nz : ¬In1 q.pa H1.next := fun h => by have := (o4.path.lt h).1; omega
      have gp6 : H6.get H.next = .row q.cells true := by rw [g6.get _ (by simp; omega) np, k5.get _ (by omega)]; exact g4
      have gz6 : H6.get H1.next = .row pk0.cells true := by rw [g6.get _ (by simp; omega) nz, k5.get _ (by omega)]; exact gz4
      have hd6 : OwnI .u8 H2.next H6 q.da q.v.data.length q.dk q.v.data := (o4.data.keep k5).chg g6 fun b hb h => o4.apart b h hb
      have g6k : Keep H.next (X4.push (.row (List.map (Value.int .i64) [me]) true)) H6 := g6.keep (by simp; omega) fun b _ h => by have := (o4.path.lt h).1; omega
      let s : Pk := ⟨{ q.v with path := q.v.path ++ [me] }, a6, k6, q.da, q.dk⟩
      have os : PkOwn H2.next H6 s := ⟨o6, hd6, by show (q.v.path ++ [me]).length ≤ _; simp; omega, o4.ds, fun b h1 h2 => by
        rcases f6 b h1 with h | h
        · exact o4.apart b h h2
        · have := (o4.data.lt h2).2; simp at h; omega⟩
      let X7 := H6.set H.next (.row s.cells true)
      let X8 := X7.set H1.next (.row s.cells true)
      have w7 : stc H6 H.next 4 [.slice a6 (q.v.path ++ [me]).length k6] = some X7 := rstc' gp6 (i := 4) (by simp) _
      have g7 : X7.get H.next = .row s.cells true := by simp [X7]
      have gz7 : X7.get H1.next = .row pk0.cells true := by
        show (H6.set _ _).get _ = _
        rw [Heap.get_set_ne _ _ _ _ (by omega)]; exact gz6
      have g8 : X8.get H1.next = .row s.cells true := by simp [X8]
      refine ⟨s, X8, go _ ?_, rfl, ((os.set (by omega) _).set (by omega) _).weak (by omega), (((k4.trans (k5.weak (by omega))).trans g6k).trans (Keep.set _ (Nat.le_refl _))).trans (Keep.set _ (by omega))⟩
      rw [if_pos he, decide_eq_false hm]
      refine L0_step ?_
      rw [if_neg (by simp)]
      refine ⟨_, _, _, rldc' g4 4, ?_⟩
      rw [if_neg (by omega)]
      exact ⟨_, _, _, rldc' g4 4, _, rfl, _, _, _, _, c6, _, w7, _, _, _, _, _, _, _, _, _, _, rldAll g7, _, rstAll gz7 rfl, _, _, _, _, _, _, _, _, _, _, rldAll g8, rfl⟩
end F24
end Go.X
