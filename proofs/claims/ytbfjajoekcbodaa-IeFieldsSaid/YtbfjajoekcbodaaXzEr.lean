/- The reference's elements. -/
import Derived.Test.YtbfjajoekcbodaaXzEi3
import Derived.Test.YtbfjajoekcbodaaXzTeR
set_option linter.unusedVariables false
set_option linter.unusedSimpArgs false
set_option maxRecDepth 20000
namespace Go.X
open Go Go.RowKit Go.Proofs
namespace F45
theorem l0 {H : Heap} {a0 a1 : Option Addr} {n k0 k1 : Nat} {xs ys : List Int} (h0 : Ints .i64 H a0 n k0 xs) (h1 : Ints .i64 H a1 n k1 ys) (hn : n ≤ 140737488355328) : ∀ (d j : Nat), j + d = n → L0 a0 n k0 a1 n k1 (n : Int) (j : Int) H (.bool (decide (xs.drop j = ys.drop j)), H) := by
  have hl := h0.ln
  have hl1 := h1.ln
  intro d
  induction d with
  | zero =>
    intro j hj
    refine L0_step ?_
    rw [if_neg (by omega), List.drop_eq_nil_of_le (by omega), List.drop_eq_nil_of_le (by omega)]
    rfl
  | succ d ih =>
    intro j hj
    obtain ⟨b0, o0, rfl⟩ := h0.at (by omega)
    obtain ⟨b1, o1, rfl⟩ := h1.at (by omega)
    have hx := getD_some (xs := xs) (j := j) (by omega)
    have hy := getD_some (xs := ys) (j := j) (by omega)
    refine L0_step ?_
    rw [if_pos (by omega)]
    refine ⟨b0, o0, rfl, by omega, by omega, _, Ints.get h0 hx, b1, o1, rfl, by omega, by omega, _, Ints.get h1 hy, ?_⟩
    have ed : ∀ zs : List Int, j < zs.length → zs.drop j = zs.getD j 0 :: zs.drop (j + 1) := fun zs hz => by rw [List.drop_eq_getElem_cons hz]; simp [List.getD, hz]
    rw [ed xs (by omega), ed ys (by omega)]
    by_cases e : xs.getD j 0 = ys.getD j 0
    · rw [if_pos e, i64 (by omega) (by omega), e]
      simp only [List.cons.injEq, true_and]
      exact_mod_cast ih (j + 1) (by omega)
    · rw [if_neg e]
      simp only [List.cons.injEq, e, false_and, decide_false]
theorem ok {H : Heap} {a0 a1 : Option Addr} {n m k0 k1 : Nat} {xs ys : List Int} (h0 : Ints .i64 H a0 n k0 xs) (h1 : Ints .i64 H a1 m k1 ys) (hn : n ≤ 140737488355328) : Ce 45 [.slice a0 n k0, .slice a1 m k1] H = some (.bool (decide (xs = ys)), H) := by
  have hl := h0.ln
  have hl1 := h1.ln
  refine call ?_
  by_cases e : n = m
  · subst e
    rw [if_pos rfl]
    simpa using l0 h0 h1 hn n 0 (by omega)
  · rw [if_neg (by omega), decide_eq_false fun h => e (by rw [← hl, ← hl1, h])]
end F45
namespace F19
theorem ok {H : Heap} {e f : Ie} (h : IeOk H e) (h2 : IeOk H f) : ∃ H', Ce 19 [e.agg, f.agg] H = some (.bool (decide (e.v = f.v)), H') ∧ Keep H.next H H' := by
  obtain ⟨H1, H2, e1, e2, n1, n2, g1, g2, g3, k1, k2⟩ := two H e.cells f.cells
  refine ⟨H2, call ⟨_, e1, _, e2, _, rldc' g2 0, _, rldc' g3 0, ?_⟩, k2⟩
  by_cases c1 : e.v.kd = f.v.kd
  · rw [if_pos c1]
    refine ⟨_, rldc' g2 1, _, rldc' g3 1, ?_⟩
    by_cases c2 : e.v.asn = f.v.asn
    · rw [if_pos c2]
      refine ⟨_, rldc' g2 2, _, rldc' g3 2, ?_⟩
      by_cases c3 : e.v.rk = f.v.rk
      · rw [if_pos c3]
        refine ⟨_, rldc' g2 3, _, rldc' g3 3, ?_⟩
        by_cases c4 : e.v.tk = f.v.tk
        · rw [if_pos c4]
          refine ⟨_, _, _, rldc' g2 4, _, _, _, rldc' g3 4, _, _, F45.ok (h.s.keep k2) (h2.s.keep k2) (by have := h.sm; omega), ?_⟩
          rw [show decide (e.v = f.v) = decide (e.v.l = f.v.l) from decide_eq_decide.2 ⟨fun h => by rw [h], fun h => (VE.ext_iff' _ _).2 ⟨c1, c2, c3, c4, h⟩⟩]
        · rw [if_neg c4, decide_eq_false fun h => c4 (by rw [h])]
      · rw [if_neg c3, decide_eq_false fun h => c3 (by rw [h])]
    · rw [if_neg c2, decide_eq_false fun h => c2 (by rw [h])]
  · rw [if_neg c1, decide_eq_false fun h => c1 (by rw [h])]
end F19
namespace F22
theorem l0 {G : Heap} {a : Option Addr} {n k p : Nat} {kd : Int} {l : List Ie} (hs : Ies G a n k l) (hn : n ≤ 3000000000000) (hl : ∀ e ∈ l, IeOk G e) : ∀ (rest : List Ie) (j : Nat) (H : Heap), l.drop j = rest → j + rest.length = n → Keep G.next G H → G.next ≤ p → p < H.next → H.get p = .row ie0.cells true →
    ∃ (e : Ie) (H' : Heap), L0 kd p 0 a n k (n : Int) (j : Int) H (.tuple #[e.agg, .bool (fstV kd (rest.map Ie.v)).isSome], H') ∧ Keep G.next G H' ∧ IeOk H' e ∧ e.v = (fstV kd (rest.map Ie.v)).getD ve0 := by
  intro rest
  induction rest with
  | nil =>
    intro j H hd hj hk hp hpH g
    simp only [List.length_nil] at hj
    obtain ⟨H2, s2, g2, c2, n2⟩ := rowAll (us := ie0.cells) g hpH rfl
    refine ⟨ie0, H2, L0_step ?_, hk.trans (c2.kp hk.next hp), IeOk.zero _, rfl⟩
    rw [if_neg (by omega)]
    exact ⟨H2, s2, _, _, _, _, _, _, _, rldAll g2, rfl⟩
  | cons e rest ih =>
    intro j H hd hj hk hp hpH g
    simp only [List.length_cons] at hj
    obtain ⟨b, o, rfl⟩ := hs.at (by omega)
    have hx := drop_get hd
    have ra := (hs.keep hk).recs Ie.z hx
    have he := (hl e (List.mem_of_getElem? hx)).keep hk
    obtain ⟨H2, s2, g2, k2, n2⟩ := scratchE (H := H) (e := e)
    have hk2 := hk.trans (k2.weak hk.next)
    have gp2 : H2.get p = .row ie0.cells true := by rw [k2.get _ hpH]; exact g
    by_cases h1 : e.v.kd = kd
    · obtain ⟨H5, s5, g5, c5, n5⟩ := rowAll (us := e.cells) gp2 (by omega) rfl
      have es : fstV kd ((e :: rest).map Ie.v) = some e.v := by rw [List.map_cons]; exact if_pos h1
      have kf := hk2.trans (c5.kp (by have := hk2.next; omega) hp)
      refine ⟨e, H5, L0_step ?_, kf, (hl e (List.mem_of_getElem? hx)).keep kf, ?_⟩
      · rw [if_pos (by omega)]
        refine ⟨b, o, rfl, by omega, by omega, _, _, _, _, _, _, _, ra, _, rfl, H2, s2, _, rldc' g2 0, ?_⟩
        rw [if_pos h1]
        refine ⟨_, _, _, _, _, _, _, rldAll g2, H5, s5, _, _, _, _, _, _, _, rldAll g5, ?_⟩
        rw [es]
        rfl
      · rw [es]; rfl
    · obtain ⟨e', H', z, k', h', hv⟩ := ih (j + 1) H2 (drop_next hd) (by omega) hk2 hp (by omega) gp2
      have es : fstV kd ((e :: rest).map Ie.v) = fstV kd (rest.map Ie.v) := by simp only [List.map_cons, fstV, h1, if_false]
      rw [es]
      refine ⟨e', H', L0_step ?_, k', h', hv⟩
      rw [if_pos (by omega)]
      refine ⟨b, o, rfl, by omega, by omega, _, _, _, _, _, _, _, ra, _, rfl, H2, s2, _, rldc' g2 0, ?_⟩
      rw [if_neg h1, i64 (by omega) (by omega)]
      exact_mod_cast z
theorem ok {H : Heap} {a : Option Addr} {n k : Nat} {l : List Ie} (hs : Ies H a n k l) (hn : n ≤ 3000000000000) (hl : ∀ e ∈ l, IeOk H e) (kd : Int) : ∃ (e : Ie) (H' : Heap), Ce 22 [.slice a n k, .int .i64 kd] H = some (.tuple #[e.agg, .bool (fstV kd (l.map Ie.v)).isSome], H') ∧ Keep H.next H H' ∧ IeOk H' e ∧ e.v = (fstV kd (l.map Ie.v)).getD ve0 := by
  have hc := hs.cnt Ie.z (by decide)
  obtain ⟨H1, e1, n1, g1, k1⟩ := one H ie0.cells
  obtain ⟨e', H', z, k', h', hv⟩ := l0 (p := H.next) (kd := kd) hs hn hl l 0 H1 rfl (by omega) k1 (Nat.le_refl _) (by omega) g1
  exact ⟨e', H', call ⟨_, e1, z⟩, k', h', hv⟩
end F22
theorem mayE_1 {v : VE} (h : v.kd = 1) : mayE v ↔ asnP v.asn ∧ byteP v.rk ∧ v.tk = 0 ∧ v.l = [] := by
  unfold mayE midP plainV
  rw [if_pos h, VE.ext_iff']
  simp only
  constructor
  · rintro ⟨h1 | h1 | h1, h2⟩
    · exact ⟨h1.2.1, h1.2.2, h2.2.2.2.1, h2.2.2.2.2⟩
    · have := h1.1; omega
    · have := h1.1; omega
  · exact fun m => ⟨.inl ⟨h, m.1, m.2.1⟩, trivial, trivial, trivial, m.2.2.1, m.2.2.2⟩
theorem mayE_2 {v : VE} (h : v.kd = 2) : mayE v ↔ tickP v.tk ∧ v.asn = 0 ∧ v.rk = 0 ∧ v.l = [] := by
  unfold mayE midP plainV
  rw [if_neg (by omega), if_pos h, VE.ext_iff']
  simp only
  constructor
  · rintro ⟨h1 | h1 | h1, h2⟩
    · have := h1.1; omega
    · exact ⟨h1.2, h2.2.1, h2.2.2.1, h2.2.2.2.2⟩
    · have := h1.1; omega
  · exact fun m => ⟨.inr (.inl ⟨h, m.1⟩), trivial, m.2.1, m.2.2.1, trivial, m.2.2.2⟩
theorem mayE_3 {v : VE} (h : v.kd = 3 ∨ v.kd = 4) : mayE v ↔ listP v.l ∧ v.asn = 0 ∧ v.rk = 0 ∧ v.tk = 0 := by
  unfold mayE midP plainV
  rw [if_neg (by omega), if_neg (by omega), if_pos h, VE.ext_iff']
  simp only
  constructor
  · rintro ⟨h1 | h1 | h1, h2⟩
    · have := h1.1; omega
    · have := h1.1; omega
    · exact ⟨h1.2, h2.2.1, h2.2.2.1, h2.2.2.2.1⟩
  · exact fun m => ⟨.inr (.inr ⟨h, m.1⟩), trivial, m.2.1, m.2.2.1, m.2.2.2, trivial⟩
theorem mayE_0 {v : VE} (h1 : v.kd ≠ 1) (h2 : v.kd ≠ 2) (h3 : ¬(v.kd = 3 ∨ v.kd = 4)) : ¬mayE v := fun m => by
  rcases m.1 with h | h | h
  · exact h1 h.1
  · exact h2 h.1
  · exact h3 h.1
namespace F44
theorem ok (x : Int) (H : Heap) : Ce 44 [.int .i64 x] H = some (.bool (decide (asnP x)), H) := by
  refine call ?_
  by_cases h : x ≥ 0
  · rw [if_pos h, show decide (x < 1099511627776) = decide (asnP x) from decide_eq_decide.2 ⟨fun h' => ⟨h, h'⟩, fun h' => h'.2⟩]
  · rw [if_neg h, decide_eq_false fun h' => h h'.1]
end F44
namespace F18
theorem l1 {H : Heap} {b : Nat} {e : Ie} (he : IeOk H e) (g : H.get b = .row e.cells true) (hk : e.v.kd = 3 ∨ e.v.kd = 4) : ∀ (rest : List Int) (j : Nat), e.v.l.drop j = rest → j + rest.length = e.n → (∀ x ∈ e.v.l.take j, byteP x) → L1 b 0 e.a e.n e.k (e.n : Int) (j : Int) H (.bool (decide (mayE e.v)), H) := by
  have hln := he.s.ln
  have hsm := he.sm
  intro rest
  induction rest with
  | nil =>
    intro j hd hj hb
    simp only [List.length_nil] at hj
    rw [List.take_of_length_le (by omega)] at hb
    refine L1_step ?_
    rw [if_neg (by omega)]
    refine ⟨_, _, _, rldc' g 4, ?_⟩
    by_cases c0 : (e.n : Int) ≤ 16
    · rw [if_pos c0]
      refine ⟨_, rldc' g 1, ?_⟩
      by_cases c1 : e.v.asn = 0
      · rw [if_pos c1]
        refine ⟨_, rldc' g 2, ?_⟩
        by_cases c2 : e.v.rk = 0
        · rw [if_pos c2]
          refine ⟨_, rldc' g 3, ?_⟩
          rw [show decide (mayE e.v) = (e.v.tk == 0) by
            rw [show (e.v.tk == 0) = decide (e.v.tk = 0) from rfl]
            exact decide_eq_decide.2 ⟨fun m => ((mayE_3 hk).1 m).2.2.2, fun m => (mayE_3 hk).2 ⟨⟨by omega, hb⟩, c1, c2, m⟩⟩]
        · rw [if_neg c2, decide_eq_false fun m => c2 ((mayE_3 hk).1 m).2.2.1]
      · rw [if_neg c1, decide_eq_false fun m => c1 ((mayE_3 hk).1 m).2.1]
    · rw [if_neg c0, decide_eq_false fun m => c0 (by have := ((mayE_3 hk).1 m).1.1; omega)]
  | cons x rest ih =>
    intro j hd hj hb
    simp only [List.length_cons] at hj
    have s := he.s
    obtain ⟨b', o', ha⟩ := s.at (by omega)
    rw [ha] at s
    have hx := drop_get hd
    by_cases c : byteP x
    · have z := ih (j + 1) (drop_next hd) (by omega) (by
        intro y hy
        rw [List.take_add_one, hx] at hy
        rcases List.mem_append.1 hy with hy | hy
        · exact hb y hy
        · simp at hy; subst hy; exact c)
      refine L1_step ?_
      rw [if_pos (by omega)]
      refine ⟨b', o', ha, by omega, by omega, x, Ints.get s hx, ?_⟩
      rw [if_neg (by have := c.1; omega)]
      refine L2_step ?_
      rw [if_neg (by have := c.2; simp; omega), i64 (by omega) (by omega), ← ha]
      exact_mod_cast z
    · refine L1_step ?_
      rw [if_pos (by omega)]
      refine ⟨b', o', ha, by omega, by omega, x, Ints.get s hx, ?_⟩
      have hno : decide (mayE e.v) = false := decide_eq_false fun m => c (((mayE_3 hk).1 m).1.2 x (List.mem_of_getElem? hx))
      rw [hno]
      by_cases c1 : x < 0
      · rw [if_pos c1]
        refine L2_step ?_
        rw [if_pos rfl]
      · rw [if_neg c1]
        refine L2_step ?_
        rw [if_pos (by unfold byteP at c; simp; omega)]
theorem ok {H : Heap} {e : Ie} (h : IeOk H e) : ∃ H', Ce 18 [e.agg] H = some (.bool (decide (mayE e.v)), H') ∧ Keep H.next H H' := by
  obtain ⟨H1, e1, n1, g1, k1⟩ := one H e.cells
  have h1 := h.keep k1
  have hln := h.s.ln
  have el : ((e.n : Int) == 0) = decide (e.v.l = []) := by
    rw [show ((e.n : Int) == 0) = decide ((e.n : Int) = 0) from rfl]
    refine decide_eq_decide.2 ⟨fun c => List.eq_nil_of_length_eq_zero (by omega), fun c => by rw [c] at hln; simp at hln; omega⟩
  refine ⟨H1, call ⟨_, e1, _, rldc' g1 0, ?_⟩, k1⟩
  by_cases c1 : e.v.kd = 1
  · rw [if_pos c1]
    refine ⟨_, rldc' g1 1, _, _, F44.ok _ _, ?_⟩
    by_cases d1 : asnP e.v.asn
    · rw [if_pos (by simpa using d1)]
      refine ⟨_, rldc' g1 2, ?_⟩
      by_cases d2 : e.v.rk ≥ 0
      · rw [if_pos d2]
        refine ⟨_, rldc' g1 2, ?_⟩
        by_cases d3 : e.v.rk ≤ 255
        · rw [if_pos d3]
          refine ⟨_, rldc' g1 3, ?_⟩
          by_cases d4 : e.v.tk = 0
          · rw [if_pos d4]
            refine ⟨_, _, _, rldc' g1 4, ?_⟩
            rw [el, show decide (mayE e.v) = decide (e.v.l = []) from decide_eq_decide.2 ⟨fun m => ((mayE_1 c1).1 m).2.2.2, fun m => (mayE_1 c1).2 ⟨d1, ⟨d2, d3⟩, d4, m⟩⟩]
          · rw [if_neg d4, decide_eq_false fun m => d4 ((mayE_1 c1).1 m).2.2.1]
        · rw [if_neg d3, decide_eq_false fun m => d3 ((mayE_1 c1).1 m).2.1.2]
      · rw [if_neg d2, decide_eq_false fun m => d2 ((mayE_1 c1).1 m).2.1.1]
    · rw [if_neg (by simpa using d1), decide_eq_false fun m => d1 ((mayE_1 c1).1 m).1]
  rw [if_neg c1]
  by_cases c2 : e.v.kd = 2
  · rw [if_pos c2]
    refine ⟨_, rldc' g1 3, ?_⟩
    by_cases d2 : e.v.tk ≥ -32768
    · rw [if_pos d2]
      refine ⟨_, rldc' g1 3, ?_⟩
      by_cases d3 : e.v.tk ≤ 32767
      · rw [if_pos d3]
        refine ⟨_, rldc' g1 1, ?_⟩
        by_cases d4 : e.v.asn = 0
        · rw [if_pos d4]
          refine ⟨_, rldc' g1 2, ?_⟩
          by_cases d5 : e.v.rk = 0
          · rw [if_pos d5]
            refine ⟨_, _, _, rldc' g1 4, ?_⟩
            rw [el, show decide (mayE e.v) = decide (e.v.l = []) from decide_eq_decide.2 ⟨fun m => ((mayE_2 c2).1 m).2.2.2, fun m => (mayE_2 c2).2 ⟨⟨d2, d3⟩, d4, d5, m⟩⟩]
          · rw [if_neg d5, decide_eq_false fun m => d5 ((mayE_2 c2).1 m).2.2.1]
        · rw [if_neg d4, decide_eq_false fun m => d4 ((mayE_2 c2).1 m).2.1]
      · rw [if_neg d3, decide_eq_false fun m => d3 ((mayE_2 c2).1 m).1.2]
    · rw [if_neg d2, decide_eq_false fun m => d2 ((mayE_2 c2).1 m).1.1]
  rw [if_neg c2]
  have fin : (e.v.kd = 3 ∨ e.v.kd = 4) → L0 H.next 0 true H1 (.bool (decide (mayE e.v)), H1) := fun hk => by
    refine L0_step ?_
    rw [if_pos rfl]
    exact ⟨_, _, _, rldc' g1 4, l1 h1 g1 hk e.v.l 0 rfl (by omega) (by simp)⟩
  by_cases c3 : e.v.kd = 3
  · rw [if_pos c3]
    have := fin (.inl c3)
    rwa [show (e.v.kd == 3) = true by simp [c3]]
  rw [if_neg c3]
  by_cases c4 : e.v.kd = 4
  · have := fin (.inr c4)
    rwa [show (e.v.kd == 4) = true by simp [c4]]
  · refine L0_step ?_
    rw [if_neg (by simpa using c4), decide_eq_false (mayE_0 c1 c2 (by omega))]
end F18
end Go.X
