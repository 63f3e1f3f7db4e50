/- What the functions of the packets come to. -/
import Derived.Test.YtdnokmjobpbhhaaXzLr
set_option linter.unusedVariables false
set_option linter.unusedSimpArgs false
set_option maxRecDepth 20000
namespace Go.X
open Go Go.RowKit Go.Proofs
/-- A packet's value. -/
structure PV where
  f : Int
  t : Int
  n : Int
  l : Int
  path : List Int
  data : List Int
  deriving DecidableEq
/-- A packet, in memory. -/
structure Pk where
  v : PV
  pa : Option Addr
  pk : Nat
  da : Option Addr
  dk : Nat
abbrev Pk.cells (p : Pk) : List Value := [.int .i64 p.v.f, .int .i64 p.v.t, .int .i64 p.v.n, .int .i64 p.v.l, .slice p.pa p.v.path.length p.pk, .slice p.da p.v.data.length p.dk]
abbrev Pk.agg (p : Pk) : Value := .agg #[.int .i64 p.v.f, .int .i64 p.v.t, .int .i64 p.v.n, .int .i64 p.v.l, .slice p.pa p.v.path.length p.pk, .slice p.da p.v.data.length p.dk]
structure PkOk (H : Heap) (p : Pk) : Prop where
  path : Ints .i64 H p.pa p.v.path.length p.pk p.v.path
  data : Ints .u8 H p.da p.v.data.length p.dk p.v.data
  ps : p.v.path.length ≤ 17592186044416
  ds : p.v.data.length ≤ 140737488355328
/-- .. of its own. -/
structure PkOwn (base : Nat) (H : Heap) (p : Pk) : Prop where
  path : OwnI .i64 base H p.pa p.v.path.length p.pk p.v.path
  data : OwnI .u8 base H p.da p.v.data.length p.dk p.v.data
  ps : p.v.path.length ≤ 17592186044416
  ds : p.v.data.length ≤ 140737488355328
  apart : ∀ b, In1 p.pa b → ¬In1 p.da b
theorem PkOk.keep {H H' : Heap} {p : Pk} (h : PkOk H p) (k : Keep H.next H H') : PkOk H' p := ⟨h.path.keep k, h.data.keep k, h.ps, h.ds⟩
theorem PkOwn.keep {base : Nat} {H H' : Heap} {p : Pk} (h : PkOwn base H p) (k : Keep H.next H H') : PkOwn base H' p := ⟨h.path.keep k, h.data.keep k, h.ps, h.ds, h.apart⟩
theorem PkOwn.ok {base : Nat} {H : Heap} {p : Pk} (h : PkOwn base H p) : PkOk H p := ⟨h.path.sl, h.data.sl, h.ps, h.ds⟩
theorem PkOwn.weak {base base' : Nat} {H : Heap} {p : Pk} (h : PkOwn base H p) (hb : base' ≤ base) : PkOwn base' H p := ⟨h.path.weak hb, h.data.weak hb, h.ps, h.ds, h.apart⟩
/-- A row below the base is set. -/
theorem PkOwn.set {base : Nat} {H : Heap} {p : Pk} (h : PkOwn base H p) {b : Nat} (hb : b < base) (o : AObj) : PkOwn base (H.set b o) p :=
  ⟨h.path.chg (chgSet' o) fun c hc e => by have := (h.path.lt hc).1; have e : c = b := e; omega, h.data.chg (chgSet' o) fun c hc e => by have := (h.data.lt hc).1; have e : c = b := e; omega, h.ps, h.ds, h.apart⟩
def pv0 : PV := ⟨0, 0, 0, 0, [], []⟩
def pk0 : Pk := ⟨pv0, none, 0, none, 0⟩
theorem pk0_own (base : Nat) (H : Heap) : PkOwn base H pk0 := ⟨OwnI.nil, OwnI.nil, by simp [pk0, pv0], by simp [pk0, pv0], fun b h => absurd h In1.none⟩
def mayP (v : PV) : Prop := nodeP v.f ∧ nodeP v.t ∧ v.f ≠ v.t ∧ (0 ≤ v.n ∧ v.n ≤ 70368744177663) ∧ (0 ≤ v.l ∧ v.l ≤ 15) ∧ pathP v.path ∧ (1 ≤ (v.data.length : Int) ∧ (v.data.length : Int) ≤ 24)
instance (v : PV) : Decidable (mayP v) := by unfold mayP; infer_instance
/-- Two new rows. -/
theorem two (H : Heap) (p z : List Value) : ∃ H1 H2, H1 = H.push (.row p true) ∧ H2 = H1.push (.row z true) ∧ H1.next = H.next + 1 ∧ H2.next = H.next + 2 ∧ H1.get H.next = .row p true ∧ H2.get H.next = .row p true ∧ H2.get H1.next = .row z true ∧ Keep H.next H H1 ∧ Keep H.next H H2 := by
  refine ⟨_, _, rfl, rfl, rfl, rfl, by simp, ?_, Heap.get_push_same _ _, Keep.push _ (Nat.le_refl _), (Keep.push _ (Nat.le_refl _)).trans (Keep.push _ (by simp))⟩
  rw [Heap.get_push_ne _ _ _ (by simp)]; simp
theorem one (H : Heap) (p : List Value) : ∃ H1, H1 = H.push (.row p true) ∧ H1.next = H.next + 1 ∧ H1.get H.next = .row p true ∧ Keep H.next H H1 :=
  ⟨_, rfl, rfl, by simp, Keep.push _ (Nat.le_refl _)⟩
namespace F28
theorem ok {H : Heap} {p : Pk} (h : PkOk H p) : ∃ H', Cr 28 [p.agg] H = some (.bool (decide (mayP p.v)), H') ∧ Keep H.next H H' := by
  obtain ⟨H1, e1, n1, g1, k1⟩ := one H p.cells
  have h1 := h.keep k1
  refine ⟨H1, call ⟨_, e1, _, rldc' g1 0, _, _, F61.ok _ _, ?_⟩, k1⟩
  by_cases c1 : nodeP p.v.f
  · rw [if_pos (by simpa using c1)]
    refine ⟨_, rldc' g1 1, _, _, F61.ok _ _, ?_⟩
    by_cases c2 : nodeP p.v.t
    · rw [if_pos (by simpa using c2)]
      refine ⟨_, rldc' g1 0, _, rldc' g1 1, ?_⟩
      by_cases c3 : p.v.f = p.v.t
      · rw [if_pos c3, decide_eq_false fun m => m.2.2.1 c3]
      · rw [if_neg c3]
        refine ⟨_, rldc' g1 2, _, _, F62.ok _ _ _ _, ?_⟩
        by_cases c4 : 0 ≤ p.v.n ∧ p.v.n ≤ 70368744177663
        · rw [if_pos (by simpa using c4)]
          refine ⟨_, rldc' g1 3, _, _, F62.ok _ _ _ _, ?_⟩
          by_cases c5 : 0 ≤ p.v.l ∧ p.v.l ≤ 15
          · rw [if_pos (by simpa using c5)]
            refine ⟨_, _, _, rldc' g1 4, _, _, F54.ok h1.path (by have := h.ps; omega), ?_⟩
            by_cases c6 : pathP p.v.path
            · rw [if_pos (by simpa using c6)]
              refine ⟨_, _, _, rldc' g1 5, _, _, F62.ok _ _ _ _, ?_⟩
              rw [show decide (mayP p.v) = decide (1 ≤ (p.v.data.length : Int) ∧ (p.v.data.length : Int) ≤ 24) from decide_eq_decide.2 ⟨fun m => m.2.2.2.2.2.2, fun m => ⟨c1, c2, c3, c4, c5, c6, m⟩⟩]
            · rw [if_neg (by simpa using c6), decide_eq_false fun m => c6 m.2.2.2.2.2.1]
          · rw [if_neg (by simpa using c5), decide_eq_false fun m => c5 m.2.2.2.2.1]
        · rw [if_neg (by simpa using c4), decide_eq_false fun m => c4 m.2.2.2.1]
    · rw [if_neg (by simpa using c2), decide_eq_false fun m => c2 m.2.1]
  · rw [if_neg (by simpa using c1), decide_eq_false fun m => c1 m.1]
end F28
namespace F76
theorem ok {H : Heap} {p : Pk} (h : PkOk H p) : ∃ q H', Cr 76 [p.agg] H = some (q.agg, H') ∧ q.v = p.v ∧ PkOwn H.next H' q ∧ Keep H.next H H' := by
  obtain ⟨H1, H2, e1, e2, n1, n2, g1, g2, g3, k1, k2⟩ := two H p.cells pk0.cells
  have h2 := h.keep k2
  obtain ⟨a5, k5, H3, c3, o3, p3⟩ := F55.ok h2.path h.ps
  obtain ⟨a8, k8, H4, c4, o4, p4⟩ := F78.ok ((h2.data).keep p3) h.ds
  have gp3 : H3.get H.next = .row p.cells true := by rw [p3.get _ (by omega)]; exact g2
  have hn3 := p3.next
  have gp4 : H4.get H.next = .row p.cells true := by rw [p4.get _ (by omega)]; exact gp3
  have gz4 : H4.get H1.next = .row pk0.cells true := by rw [p4.get _ (by omega), p3.get _ (by omega)]; exact g3
  have hn4 := p4.next
  generalize hq : (⟨p.v, a5, k5, a8, k8⟩ : Pk) = q
  have hqv : q.v = p.v := by rw [← hq]
  have o5 := o3.keep p4
  let X5 := H4.set H.next (.row [.int .i64 p.v.f, .int .i64 p.v.t, .int .i64 p.v.n, .int .i64 p.v.l, .slice a5 p.v.path.length k5, .slice p.da p.v.data.length p.dk] true)
  let X6 := X5.set H.next (.row [.int .i64 p.v.f, .int .i64 p.v.t, .int .i64 p.v.n, .int .i64 p.v.l, .slice a5 p.v.path.length k5, .slice a8 p.v.data.length k8] true)
  let X7 := X6.set H1.next (.row [.int .i64 p.v.f, .int .i64 p.v.t, .int .i64 p.v.n, .int .i64 p.v.l, .slice a5 p.v.path.length k5, .slice a8 p.v.data.length k8] true)
  have w5 : stc H4 H.next 4 [.slice a5 p.v.path.length k5] = some X5 := rstc' gp4 (i := 4) (by simp) _
  have w6 : stc X5 H.next 5 [.slice a8 p.v.data.length k8] = some X6 := rstc' (vs := [.int .i64 p.v.f, .int .i64 p.v.t, .int .i64 p.v.n, .int .i64 p.v.l, .slice a5 p.v.path.length k5, .slice p.da p.v.data.length p.dk]) (by simp [X5]) (i := 5) (by simp) _
  have g6 : X6.get H.next = .row [.int .i64 p.v.f, .int .i64 p.v.t, .int .i64 p.v.n, .int .i64 p.v.l, .slice a5 p.v.path.length k5, .slice a8 p.v.data.length k8] true := by simp [X6]
  have gz6 : X6.get H1.next = .row pk0.cells true := by
    show ((H4.set _ _).set _ _).get _ = _
    rw [Heap.get_set_ne _ _ _ _ (by omega), Heap.get_set_ne _ _ _ _ (by omega)]; exact gz4
  have w7 : stc X6 H1.next 0 [.int .i64 p.v.f, .int .i64 p.v.t, .int .i64 p.v.n, .int .i64 p.v.l, .slice a5 p.v.path.length k5, .slice a8 p.v.data.length k8] = some X7 := rstAll gz6 rfl
  have g7 : X7.get H1.next = .row [.int .i64 p.v.f, .int .i64 p.v.t, .int .i64 p.v.n, .int .i64 p.v.l, .slice a5 p.v.path.length k5, .slice a8 p.v.data.length k8] true := by simp [X7]
  have kk : Keep H.next H X7 := ((((k2.trans (p3.weak (by omega))).trans (p4.weak (by omega))).trans (Keep.set _ (Nat.le_refl _))).trans (Keep.set _ (Nat.le_refl _))).trans (Keep.set _ (by omega))
  have ow : PkOwn H2.next X7 q := by
    have h4 : PkOwn H2.next H4 q := by
      rw [← hq]
      exact ⟨o5, o4.weak (by omega), h.ps, h.ds, fun b h1 h2 => by have := (o3.lt h1).2; have := (o4.lt h2).1; omega⟩
    exact ((h4.set (by omega) _).set (by omega) _).set (by omega) _
  refine ⟨q, X7, ?_, hqv, ow.weak (by omega), kk⟩
  subst hq
  exact call ⟨_, e1, _, e2, _, _, _, rldc' g2 4, _, _, _, _, c3, _, _, _, rldc' g2 5, _, _, _, _, c4, _, w5, _, w6, rldc' gp3 5, _, _, _, _, _, _, _, _, _, _, rldAll g6, _, w7, _, _, _, _, _, _, _, _, _, _, rldAll g7, rfl⟩
end F76
/-- A hop further. -/
def stepV (v : PV) (me : Int) : PV × Int := if ¬(mayP v ∧ nodeP me) then (pv0, 1) else if v.l = 0 then (pv0, 11) else ({ v with l := v.l - 1 }, 0)
namespace F58
theorem ok {H : Heap} {p : Pk} (h : PkOk H p) (me : Int) : ∃ q H', Cr 58 [p.agg, .int .i64 me] H = some (.tuple #[q.agg, .int .i64 (stepV p.v me).2], H') ∧ q.v = (stepV p.v me).1 ∧ PkOwn H.next H' q ∧ Keep H.next H H' := by
  obtain ⟨H1, H2, e1, e2, n1, n2, g1, g2, g3, k1, k2⟩ := two H p.cells pk0.cells
  have h2 := h.keep k2
  obtain ⟨H3, c3, p3⟩ := F28.ok h2
  have h3 := h2.keep p3
  have hn3 := p3.next
  have gp3 : H3.get H.next = .row p.cells true := by rw [p3.get _ (by omega)]; exact g2
  have gz3 : H3.get H1.next = .row pk0.cells true := by rw [p3.get _ (by omega)]; exact g3
  have k3 : Keep H.next H H3 := k2.trans (p3.weak (by omega))
  -- an answer without a packet
  have zero : ∃ X, stc H3 H1.next 0 pk0.cells = some X ∧ ldAll X H1.next 0 pk0.cells ∧ Keep H.next H X :=
    ⟨_, rstAll gz3 rfl, rldAll (vs := pk0.cells) (own := true) (by simp), k3.trans (Keep.set _ (by omega))⟩
  obtain ⟨X, x1, x2, x3⟩ := zero
  have no : ∃ q H', L0 H.next 0 H1.next 0 true H3 (.tuple #[q.agg, .int .i64 1], H') ∧ q.v = pv0 ∧ PkOwn H.next H' q ∧ Keep H.next H H' := by
    refine ⟨pk0, X, L0_step ?_, rfl, pk0_own _ _, x3⟩
    rw [if_pos rfl]
    exact ⟨_, x1, _, _, _, _, _, _, _, _, _, _, x2, rfl⟩
  have go : ∀ r, (if mayP p.v then L0 H.next 0 H1.next 0 (!decide (nodeP me)) H3 r else L0 H.next 0 H1.next 0 true H3 r) → Cr 58 [p.agg, .int .i64 me] H = some r := by
    intro r hr
    refine call ⟨_, e1, _, e2, _, _, _, _, _, _, _, _, _, _, rldAll g2, _, _, c3, ?_⟩
    by_cases hm : mayP p.v
    · rw [if_pos hm] at hr
      rw [if_pos (by simpa using hm)]
      exact ⟨_, _, F61.ok _ _, hr⟩
    · rw [if_neg hm] at hr
      rw [if_neg (by simpa using hm)]
      exact hr
  unfold stepV
  by_cases hm : mayP p.v ∧ nodeP me
  · rw [if_neg (fun c => c hm)]
    by_cases hl : p.v.l = 0
    · rw [if_pos hl]
      refine ⟨pk0, X, go _ ?_, rfl, pk0_own _ _, x3⟩
      rw [if_pos hm.1, decide_eq_true hm.2]
      refine L0_step ?_
      rw [if_neg (by simp)]
      refine ⟨_, rldc' gp3 3, ?_⟩
      rw [if_pos hl]
      exact ⟨_, x1, _, _, _, _, _, _, _, _, _, _, x2, rfl⟩
    · rw [if_neg hl]
      obtain ⟨q, H4, c4, hq, o4, p4⟩ := F76.ok h3
      have hn4 := p4.next
      have gp4 : H4.get H.next = .row p.cells true := by rw [p4.get _ (by omega)]; exact gp3
      have gz4 : H4.get H1.next = .row pk0.cells true := by rw [p4.get _ (by omega)]; exact gz3
      let X4 := H4.set H.next (.row q.cells true)
      let s : Pk := { q with v := { q.v with l := IntKind.wrap .i64 (q.v.l - 1) } }
      let X5 := X4.set H.next (.row s.cells true)
      let X6 := X5.set H1.next (.row s.cells true)
      have w4 : stc H4 H.next 0 q.cells = some X4 := rstAll gp4 rfl
      have g4 : X4.get H.next = .row q.cells true := by simp [X4]
      have w5 : stc X4 H.next 3 [.int .i64 (IntKind.wrap .i64 (q.v.l - 1))] = some X5 := rstc' g4 (i := 3) (by simp) _
      have g5 : X5.get H.next = .row s.cells true := by simp [X5]
      have gz5 : X5.get H1.next = .row pk0.cells true := by
        show ((H4.set _ _).set _ _).get _ = _
        rw [Heap.get_set_ne _ _ _ _ (by omega), Heap.get_set_ne _ _ _ _ (by omega)]; exact gz4
      have w6 : stc X5 H1.next 0 s.cells = some X6 := rstAll gz5 rfl
      have g6 : X6.get H1.next = .row s.cells true := by simp [X6]
      have hl2 := hm.1.2.2.2.2.1
      have hs : s.v = { p.v with l := p.v.l - 1 } := by
        show ({ q.v with l := IntKind.wrap .i64 (q.v.l - 1) } : PV) = _
        rw [hq, i64 (by omega) (by omega)]
      have os : PkOwn H3.next X6 s := by
        have : PkOwn H3.next H4 s := ⟨o4.path, o4.data, o4.ps, o4.ds, o4.apart⟩
        exact ((this.set (by omega) _).set (by omega) _).set (by omega) _
      refine ⟨s, X6, go _ ?_, hs, os.weak (by omega), (((k3.trans (p4.weak (by omega))).trans (Keep.set _ (Nat.le_refl _))).trans (Keep.set _ (Nat.le_refl _))).trans (Keep.set _ (by omega))⟩
      rw [if_pos hm.1, decide_eq_true hm.2]
      refine L0_step ?_
      rw [if_neg (by simp)]
      refine ⟨_, rldc' gp3 3, ?_⟩
      rw [if_neg hl]
      exact ⟨_, _, _, _, _, _, _, _, _, _, rldAll gp3, _, _, _, _, _, _, _, _, _, _, _, c4, _, w4, _, rldc' g4 3, _, w5, _, _, _, _, _, _, _, _, _, _, rldAll g5, _, w6, _, _, _, _, _, _, _, _, _, _, rldAll g6, rfl⟩
  · rw [if_pos hm]
    obtain ⟨q, H', z, h1, h2, h3⟩ := no
    refine ⟨q, H', go _ ?_, h1, h2, h3⟩
    by_cases hm1 : mayP p.v
    · rw [if_pos hm1, decide_eq_false fun hn => hm ⟨hm1, hn⟩]; exact z
    · rw [if_neg hm1]; exact z
end F58
end Go.X
