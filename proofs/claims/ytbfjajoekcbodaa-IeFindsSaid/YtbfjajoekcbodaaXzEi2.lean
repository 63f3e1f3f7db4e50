/- What the functions of the elements come to: whether one may be, which is the same, which is found. -/
import Derived.Test.YtbfjajoekcbodaaXzEi
set_option linter.unusedVariables false
set_option linter.unusedSimpArgs false
set_option maxRecDepth 20000
namespace Go.X
open Go Go.RowKit Go.Proofs
theorem m94 : xmethod Try.prog 94 "campanile/ie.may" = some 98 := by kernel_rfl
theorem m96 : xmethod Try.prog 96 "campanile/ie.may" = some 100 := by kernel_rfl
theorem m98 : xmethod Try.prog 98 "campanile/ie.may" = some 102 := by kernel_rfl
theorem p94 : xmethod Try.prog 94 "campanile/ie.put" = some 99 := by kernel_rfl
theorem p96 : xmethod Try.prog 96 "campanile/ie.put" = some 101 := by kernel_rfl
theorem p98 : xmethod Try.prog 98 "campanile/ie.put" = some 103 := by kernel_rfl
theorem go98 : fnGoes Try.prog 98 = true := by kernel_rfl
theorem go99 : fnGoes Try.prog 99 = true := by kernel_rfl
theorem go100 : fnGoes Try.prog 100 = true := by kernel_rfl
theorem go101 : fnGoes Try.prog 101 = true := by kernel_rfl
theorem go102 : fnGoes Try.prog 102 = true := by kernel_rfl
theorem go103 : fnGoes Try.prog 103 = true := by kernel_rfl
theorem go40 : fnGoes Try.prog 40 = true := by kernel_rfl
theorem go105 : fnGoes Try.prog 105 = true := by kernel_rfl
namespace F98
theorem ok (x y : Int) (H : Heap) : ∃ H', Ce 98 [.agg #[.int .i64 x, .int .i64 y]] H = some (.bool (decide (asnP x ∧ byteP y)), H') ∧ Keep H.next H H' := by
  obtain ⟨H1, e1, n1, g1, k1⟩ := one H [.int .i64 x, .int .i64 y]
  refine ⟨H1, call ⟨_, e1, _, rldc' g1 0, ?_⟩, k1⟩
  by_cases h1 : x ≥ 0
  · rw [if_pos h1]
    refine ⟨_, rldc' g1 0, ?_⟩
    by_cases h2 : x < 1099511627776
    · rw [if_pos h2]
      refine ⟨_, rldc' g1 1, ?_⟩
      by_cases h3 : y ≥ 0
      · rw [if_pos h3]
        refine ⟨_, rldc' g1 1, ?_⟩
        rw [show decide (asnP x ∧ byteP y) = decide (y ≤ 255) from decide_eq_decide.2 ⟨fun h => h.2.2, fun h => ⟨⟨h1, h2⟩, h3, h⟩⟩]
      · rw [if_neg h3, decide_eq_false fun h => h3 h.2.1]
    · rw [if_neg h2, decide_eq_false fun h => h2 h.1.2]
  · rw [if_neg h1, decide_eq_false fun h => h1 h.1.1]
end F98
namespace F100
theorem ok (x : Int) (H : Heap) : ∃ H', Ce 100 [.agg #[.int .i64 x]] H = some (.bool (decide (tickP x)), H') ∧ Keep H.next H H' := by
  obtain ⟨H1, e1, n1, g1, k1⟩ := one H [.int .i64 x]
  refine ⟨H1, call ⟨_, e1, _, rldc' g1 0, ?_⟩, k1⟩
  by_cases h1 : x ≥ -32768
  · rw [if_pos h1]
    refine ⟨_, rldc' g1 0, ?_⟩
    rw [show decide (tickP x) = decide (x ≤ 32767) from decide_eq_decide.2 ⟨fun h => h.2, fun h => ⟨h1, h⟩⟩]
  · rw [if_neg h1, decide_eq_false fun h => h1 h.1]
end F100
namespace F105
theorem ok (x : Int) (H : Heap) : Ce 105 [.int .i64 x] H = some (.bool (decide (¬byteP x)), H) := by
  refine call ?_
  by_cases h : x < 0
  · rw [if_pos h, decide_eq_true (show ¬byteP x from fun b => by have := b.1; omega)]
  · rw [if_neg h, show decide (¬byteP x) = decide (x > 255) from decide_eq_decide.2 ⟨fun b => by unfold byteP at b; omega, fun b c => by have := c.2; omega⟩]
end F105
namespace F106
theorem l0 {H : Heap} {a : Option Addr} {n k : Nat} {xs : List Int} (hs : Ints .i64 H a n k xs) (hn : n ≤ 140737488355328) : ∀ (rest : List Int) (j : Nat), xs.drop j = rest → j + rest.length = n → ∃ t : Int, L0 a n k (.func (.func 105) #[] #[]) (n : Int) (j : Int) H (.int .i64 t, H) ∧ (0 ≤ t ↔ ¬∀ x ∈ rest, byteP x) := by
  intro rest
  induction rest with
  | nil =>
    intro j hd hj
    simp only [List.length_nil] at hj
    refine ⟨-1, L0_step ?_, by simp⟩
    rw [if_neg (by omega)]
  | cons x rest ih =>
    intro j hd hj
    simp only [List.length_cons] at hj
    obtain ⟨b, o, rfl⟩ := hs.at (by omega)
    by_cases e : byteP x
    · obtain ⟨t, z, ht⟩ := ih (j + 1) (drop_next hd) (by omega)
      refine ⟨t, L0_step ?_, by rw [ht]; simp [e]⟩
      rw [if_pos (by omega)]
      refine ⟨b, o, rfl, by omega, by omega, x, Ints.get hs (drop_get hd), 105, #[], #[], rfl, go105, _, H, F105.ok x H, ?_⟩
      rw [if_neg (by simpa using e), i64 (by omega) (by omega)]
      exact_mod_cast z
    · refine ⟨j, L0_step ?_, by simp [e]⟩
      rw [if_pos (by omega)]
      refine ⟨b, o, rfl, by omega, by omega, x, Ints.get hs (drop_get hd), 105, #[], #[], rfl, go105, _, H, F105.ok x H, ?_⟩
      rw [if_pos (by simpa using e)]
end F106
namespace F104
theorem ok {H : Heap} {a : Option Addr} {n k : Nat} {xs : List Int} (hs : Ints .i64 H a n k xs) (hn : n ≤ 140737488355328) : Ce 104 [.slice a n k, .func (.func 105) #[] #[]] H = some (.bool (decide (¬∀ x ∈ xs, byteP x)), H) := by
  obtain ⟨t, z, ht⟩ := F106.l0 hs hn xs 0 rfl (by have := hs.ln; omega)
  exact call ⟨t, H, F106.call z, by rw [show decide (t ≥ 0) = decide (¬∀ x ∈ xs, byteP x) from decide_eq_decide.2 ht]⟩
end F104
namespace F102
theorem ok {H : Heap} {a : Option Addr} {n k : Nat} {xs : List Int} (hs : Ints .i64 H a n k xs) (hn : n ≤ 17592186044416) : ∃ H', Ce 102 [.agg #[.slice a n k]] H = some (.bool (decide (listP xs)), H') ∧ Keep H.next H H' := by
  have hl := hs.ln
  obtain ⟨H1, e1, n1, g1, k1⟩ := one H [.slice a n k]
  refine ⟨H1, call ⟨_, e1, _, _, _, rldc' g1 0, ?_⟩, k1⟩
  by_cases h1 : (n : Int) ≤ 16
  · rw [if_pos h1]
    refine ⟨_, _, _, rldc' g1 0, _, H1, F104.ok (hs.keep k1) (by omega), ?_⟩
    rw [show decide (listP xs) = !decide (¬∀ x ∈ xs, byteP x) by
      by_cases h : ∀ x ∈ xs, byteP x
      · rw [decide_eq_true (show listP xs from ⟨by omega, h⟩), decide_eq_false fun c => c h]; rfl
      · rw [decide_eq_false fun c : listP xs => h c.2, decide_eq_true h]; rfl]
  · rw [if_neg h1, decide_eq_false fun c : listP xs => h1 (by have := c.1; omega)]
end F102
theorem ofV_may {H : Heap} {e : Ie} (h : IeOk H e) : (ofV e = .nilIface ∧ ¬mayE e.v) ∨ ∃ t v g, ofV e = .iface t v ∧ xmethod Try.prog t "campanile/ie.may" = some g ∧ fnGoes Try.prog g = true ∧ ∃ H', Ce g [v] H = some (.bool (decide (midP e.v)), H') ∧ Keep H.next H H' := by
  unfold ofV
  by_cases h1 : e.v.kd = 1
  · rw [if_pos h1]
    obtain ⟨H', c, k⟩ := F98.ok e.v.asn e.v.rk H
    refine .inr ⟨94, _, 98, rfl, m94, go98, H', ?_, k⟩
    rw [c, show decide (asnP e.v.asn ∧ byteP e.v.rk) = decide (midP e.v) from decide_eq_decide.2 ⟨fun h => .inl ⟨h1, h⟩, fun h => by rcases h with h | h | h; exact h.2; have := h.1; omega; have := h.1; omega⟩]
  rw [if_neg h1]
  by_cases h2 : e.v.kd = 2
  · rw [if_pos h2]
    obtain ⟨H', c, k⟩ := F100.ok e.v.tk H
    refine .inr ⟨96, _, 100, rfl, m96, go100, H', ?_, k⟩
    rw [c, show decide (tickP e.v.tk) = decide (midP e.v) from decide_eq_decide.2 ⟨fun h => .inr (.inl ⟨h2, h⟩), fun h => by rcases h with h | h | h; have := h.1; omega; exact h.2; have := h.1; omega⟩]
  rw [if_neg h2]
  by_cases h3 : e.v.kd = 3 ∨ e.v.kd = 4
  · rw [if_pos h3]
    obtain ⟨H', c, k⟩ := F102.ok h.s h.sm
    refine .inr ⟨98, _, 102, rfl, m98, go102, H', ?_, k⟩
    rw [c, show decide (listP e.v.l) = decide (midP e.v) from decide_eq_decide.2 ⟨fun h => .inr (.inr ⟨h3, h⟩), fun h => by rcases h with h | h | h; have := h.1; omega; have := h.1; omega; exact h.2⟩]
  · rw [if_neg h3]
    refine .inl ⟨rfl, fun m => ?_⟩
    rcases m.1 with h | h | h
    · have := h.1; omega
    · have := h.1; omega
    · exact h3 h.1
theorem VE.ext_iff' (a b : VE) : a = b ↔ a.kd = b.kd ∧ a.asn = b.asn ∧ a.rk = b.rk ∧ a.tk = b.tk ∧ a.l = b.l := by cases a; cases b; simp
namespace F17
theorem ok {H : Heap} {e f : Ie} (h : IeOk H e) (h2 : IeOk H f) : ∃ H', Ce 17 [e.agg, f.agg] H = some (.bool (decide (e.v = f.v)), H') ∧ Keep H.next H H' := by
  obtain ⟨H1, H2, e1, e2, n1, n2, g1, g2, g3, k1, k2⟩ := two H e.cells f.cells
  refine ⟨H2, call ⟨_, e1, _, e2, _, rldc' g2 0, _, rldc' g3 0, ?_⟩, k2⟩
  by_cases c1 : e.v.kd = f.v.kd
  · rw [if_pos c1]
    refine ⟨_, rldc' g2 1, _, rldc' g3 1, ?_⟩
    by_cases c2 : e.v.asn = f.v.asn
    · rw [if_pos c2]
      refine ⟨_, rldc' g2 2, _, rldc' g3 2, ?_⟩
      by_cases c3 : e.v.rk = f.v.rk
      · rw [if_pos c3]
        refine ⟨_, rldc' g2 3, _, rldc' g3 3, ?_⟩
        by_cases c4 : e.v.tk = f.v.tk
        · rw [if_pos c4]
          refine ⟨_, _, _, rldc' g2 4, _, _, _, rldc' g3 4, _, _, F43.ok (h.s.keep k2) (h2.s.keep k2) (by have := h.sm; omega), ?_⟩
          rw [show decide (e.v = f.v) = decide (e.v.l = f.v.l) from decide_eq_decide.2 ⟨fun h => by rw [h], fun h => (VE.ext_iff' _ _).2 ⟨c1, c2, c3, c4, h⟩⟩]
        · rw [if_neg c4, decide_eq_false fun h => c4 (by rw [h])]
      · rw [if_neg c3, decide_eq_false fun h => c3 (by rw [h])]
    · rw [if_neg c2, decide_eq_false fun h => c2 (by rw [h])]
  · rw [if_neg c1, decide_eq_false fun h => c1 (by rw [h])]
end F17
namespace F14
theorem ok {H : Heap} {e : Ie} (h : IeOk H e) : ∃ H', Ce 14 [e.agg] H = some (.bool (decide (mayE e.v)), H') ∧ Keep H.next H H' := by
  obtain ⟨H1, e1, n1, g1, k1⟩ := one H e.cells
  obtain ⟨H2, c2, k2⟩ := F37.ok e H1
  have k02 := k1.trans (k2.weak (by omega : H.next ≤ H1.next))
  have h2 := h.keep k02
  have n2 := k2.next
  rcases ofV_may h2 with ⟨ho, hm⟩ | ⟨t, v, g, ho, hme, hgo, H3, c3, k3⟩
  · refine ⟨H2, call ⟨_, e1, _, _, _, _, _, _, _, rldAll g1, _, _, c2, .inl ⟨ho, ?_⟩⟩, k02⟩
    rw [decide_eq_false hm]
  · have k03 := k02.trans (k3.weak (by omega))
    by_cases hm : midP e.v
    · have g3 : H3.get H.next = .row e.cells true := by rw [k3.get _ (by omega), k2.get _ (by omega)]; exact g1
      obtain ⟨H4, c4, k4⟩ := F38.ok e H3
      have n3 := k3.next
      have n4 := k4.next
      have k04 := k03.trans (k4.weak (by omega))
      have h4 := (F38.plainOk (h.keep k04))
      obtain ⟨H5, c5, k5⟩ := F17.ok (h.keep k04) h4.1
      have g4 : H4.get H.next = .row e.cells true := by rw [k4.get _ (by omega)]; exact g3
      refine ⟨H5, call ⟨_, e1, _, _, _, _, _, _, _, rldAll g1, _, _, c2, .inr ⟨t, v, ho, g, hme, hgo, _, _, c3, ?_⟩⟩, k04.trans (k5.weak (by omega))⟩
      rw [if_pos (by simpa using hm)]
      refine ⟨_, _, _, _, _, _, _, rldAll g3, _, rldc' g3 0, _, _, _, _, _, _, _, _, ?_, _, _, c5, rldAll g4, ?_⟩
      · rw [← ho]; exact c4
      · rw [h4.2, show decide (mayE e.v) = decide (e.v = plainV e.v) from decide_eq_decide.2 ⟨fun h => h.2, fun h => ⟨hm, h⟩⟩]
    · refine ⟨H3, call ⟨_, e1, _, _, _, _, _, _, _, rldAll g1, _, _, c2, .inr ⟨t, v, ho, g, hme, hgo, _, _, c3, ?_⟩⟩, k03⟩
      rw [if_neg (by simpa using hm), decide_eq_false fun m : mayE e.v => hm m.1]
end F14
/-- What the laws go through. -/
def lightP (l : List Ie) : Prop := l.length ≤ 20 ∧ ∀ e ∈ l, e.n ≤ 100
instance (l : List Ie) : Decidable (lightP l) := by unfold lightP; infer_instance
theorem scratchE {H : Heap} {e : Ie} : ∃ H2, stc (H.push (.row ie0.cells true)) H.next 0 e.cells = some H2 ∧ H2.get H.next = .row e.cells true ∧ Keep H.next H H2 ∧ H2.next = H.next + 1 := fill H _ _ rfl
namespace F13
theorem l0 {G : Heap} {a : Option Addr} {n k : Nat} {l : List Ie} (hs : Ies G a n k l) (hn : n ≤ 3000000000000) : ∀ (rest : List Ie) (j : Nat) (H : Heap), l.drop j = rest → j + rest.length = n → j ≤ 20 → Keep G.next G H → ∃ (t : Int) (H' : Heap), L0 a n k (n : Int) (j : Int) H (.int .i64 t, H') ∧ Keep G.next G H' ∧ (0 < t ↔ ¬(j + rest.length ≤ 20 ∧ ∀ e ∈ rest, e.n ≤ 100)) := by
  intro rest
  induction rest with
  | nil =>
    intro j H hd hj h20 hk
    simp only [List.length_nil] at hj
    refine ⟨0, H, L0_step ?_, hk, by simp; omega⟩
    rw [if_neg (by omega)]
  | cons e rest ih =>
    intro j H hd hj h20 hk
    simp only [List.length_cons] at hj
    obtain ⟨b, o, rfl⟩ := hs.at (by omega)
    have ra := (hs.keep hk).recs Ie.z (drop_get hd)
    obtain ⟨H2, s2, g2, k2, n2⟩ := scratchE (H := H) (e := e)
    have hk2 := hk.trans (k2.weak hk.next)
    by_cases h1 : (j : Int) ≥ 20
    · refine ⟨j + 1, H2, L0_step ?_, hk2, by simp; omega⟩
      rw [if_pos (by omega)]
      refine ⟨b, o, rfl, by omega, by omega, _, _, _, _, _, _, _, ra, _, rfl, H2, s2, ?_⟩
      rw [if_pos h1]
      refine L1_step ?_
      rw [if_pos rfl, i64 (by omega) (by omega)]
    · by_cases h2 : (e.n : Int) > 100
      · refine ⟨j + 1, H2, L0_step ?_, hk2, by simp; omega⟩
        rw [if_pos (by omega)]
        refine ⟨b, o, rfl, by omega, by omega, _, _, _, _, _, _, _, ra, _, rfl, H2, s2, ?_⟩
        rw [if_neg h1]
        refine ⟨_, _, _, rldc' g2 4, L1_step ?_⟩
        rw [if_pos (by simpa using h2), i64 (by omega) (by omega)]
      · obtain ⟨t, H', z, k', ht⟩ := ih (j + 1) H2 (drop_next hd) (by omega) (by omega) hk2
        refine ⟨t, H', L0_step ?_, k', ?_⟩
        · rw [if_pos (by omega)]
          refine ⟨b, o, rfl, by omega, by omega, _, _, _, _, _, _, _, ra, _, rfl, H2, s2, ?_⟩
          rw [if_neg h1]
          refine ⟨_, _, _, rldc' g2 4, L1_step ?_⟩
          rw [if_neg (by simpa using h2), i64 (by omega) (by omega)]
          exact_mod_cast z
        · rw [ht]
          simp only [List.length_cons, List.mem_cons, forall_eq_or_imp]
          constructor
          · exact fun h c => h ⟨by omega, c.2.2⟩
          · exact fun h c => h ⟨by omega, by omega, c.2⟩
theorem ok {H : Heap} {a : Option Addr} {n k : Nat} {l : List Ie} (hs : Ies H a n k l) (hn : n ≤ 3000000000000) : ∃ (t : Int) (H' : Heap), Ce 13 [.slice a n k] H = some (.int .i64 t, H') ∧ Keep H.next H H' ∧ (0 < t ↔ ¬lightP l) := by
  have hl := hs.cnt Ie.z (by decide)
  obtain ⟨t, H', z, k', ht⟩ := l0 hs hn l 0 H rfl (by omega) (by omega) (Keep.refl _ _)
  exact ⟨t, H', call z, k', by rw [ht, Nat.zero_add]; rfl⟩
end F13
/-- The first of a kind. -/
def fstE (kd : Int) : List Ie → Option Ie
  | [] => none
  | e :: l => if e.v.kd = kd then some e else fstE kd l
def fstV (kd : Int) : List VE → Option VE
  | [] => none
  | v :: l => if v.kd = kd then some v else fstV kd l
theorem fstE_v (kd : Int) : ∀ l : List Ie, (fstE kd l).map Ie.v = fstV kd (l.map Ie.v)
  | [] => rfl
  | e :: l => by
    unfold fstE fstV
    rw [List.map_cons]
    by_cases h : e.v.kd = kd
    · simp only [h, if_true]; rfl
    · simp only [h, if_false]; exact fstE_v kd l
namespace F21
theorem l0 {G : Heap} {a : Option Addr} {n k p : Nat} {kd : Int} {l : List Ie} (hs : Ies G a n k l) (hn : n ≤ 3000000000000) (hl : ∀ e ∈ l, IeOk G e) : ∀ (rest : List Ie) (j : Nat) (H : Heap), l.drop j = rest → j + rest.length = n → Keep G.next G H → G.next ≤ p → p < H.next → H.get p = .row ie0.cells true →
    ∃ (e : Ie) (H' : Heap), L0 kd p 0 a n k (n : Int) (j : Int) H (.tuple #[e.agg, .bool (fstV kd (rest.map Ie.v)).isSome], H') ∧ Keep G.next G H' ∧ IeOk H' e ∧ e.v = (fstV kd (rest.map Ie.v)).getD ve0 := by
  intro rest
  induction rest with
  | nil =>
    intro j H hd hj hk hp hpH g
    simp only [List.length_nil] at hj
    obtain ⟨H2, s2, g2, c2, n2⟩ := rowAll (us := ie0.cells) g hpH rfl
    refine ⟨ie0, H2, L0_step ?_, hk.trans (c2.kp hk.next hp), IeOk.zero _, rfl⟩
    rw [if_neg (by omega)]
    exact ⟨H2, s2, _, _, _, _, _, _, _, rldAll g2, rfl⟩
  | cons e rest ih =>
    intro j H hd hj hk hp hpH g
    simp only [List.length_cons] at hj
    obtain ⟨b, o, rfl⟩ := hs.at (by omega)
    have hx := drop_get hd
    have ra := (hs.keep hk).recs Ie.z hx
    have he := (hl e (List.mem_of_getElem? hx)).keep hk
    obtain ⟨H2, s2, g2, k2, n2⟩ := scratchE (H := H) (e := e)
    have hk2 := hk.trans (k2.weak hk.next)
    have gp2 : H2.get p = .row ie0.cells true := by rw [k2.get _ hpH]; exact g
    by_cases h1 : e.v.kd = kd
    · obtain ⟨a3, k3, H3, c3, o3, kk3⟩ := F47.ok (he.keep k2).s (he.sm)
      have n3 := kk3.next
      have g3 : H3.get H.next = .row e.cells true := by rw [kk3.get _ (by omega)]; exact g2
      obtain ⟨H4, s4, g4, c4, n4⟩ := rowSet (i := 4) (.slice a3 e.n k3) g3 (by omega) (by simp)
      have gp4 : H4.get p = .row ie0.cells true := c4.at (by omega) (by omega) (by rw [kk3.get _ (by omega)]; exact gp2)
      obtain ⟨H5, s5, g5, c5, n5⟩ := rowAll (us := Ie.cells ⟨e.v, a3, e.n, k3⟩) gp4 (by omega) rfl
      have es : fstV kd ((e :: rest).map Ie.v) = some e.v := by rw [List.map_cons]; exact if_pos h1
      have o4 := o3.chg c4 (fun q hq h => by have := (o3.lt hq).1; have h : q = H.next := h; omega)
      have o5 := o4.chg c5 (fun q hq h => by have := (o4.lt hq).1; have h : q = p := h; omega)
      refine ⟨⟨e.v, a3, e.n, k3⟩, H5, L0_step ?_, ((hk2.trans (kk3.weak (by have := hk2.next; omega))).trans (c4.kp (by have := hk2.next; omega) (by have := hk.next; omega))).trans (c5.kp (by have := hk2.next; omega) hp), ⟨o5.sl, he.sm⟩, ?_⟩
      · rw [if_pos (by omega)]
        refine ⟨b, o, rfl, by omega, by omega, _, _, _, _, _, _, _, ra, _, rfl, H2, s2, _, rldc' g2 0, ?_⟩
        rw [if_pos h1]
        refine ⟨_, _, _, rldc' g2 4, _, _, _, _, c3, H4, s4, _, _, _, _, _, _, _, rldAll g4, H5, s5, _, _, _, _, _, _, _, rldAll g5, ?_⟩
        rw [es]
        rfl
      · rw [es]; rfl
    · obtain ⟨e', H', z, k', h', hv⟩ := ih (j + 1) H2 (drop_next hd) (by omega) hk2 hp (by omega) gp2
      have es : fstV kd ((e :: rest).map Ie.v) = fstV kd (rest.map Ie.v) := by simp only [List.map_cons, fstV, h1, if_false]
      rw [es]
      refine ⟨e', H', L0_step ?_, k', h', hv⟩
      rw [if_pos (by omega)]
      refine ⟨b, o, rfl, by omega, by omega, _, _, _, _, _, _, _, ra, _, rfl, H2, s2, _, rldc' g2 0, ?_⟩
      rw [if_neg h1, i64 (by omega) (by omega)]
      exact_mod_cast z
theorem ok {H : Heap} {a : Option Addr} {n k : Nat} {l : List Ie} (hs : Ies H a n k l) (hn : n ≤ 3000000000000) (hl : ∀ e ∈ l, IeOk H e) (kd : Int) : ∃ (e : Ie) (H' : Heap), Ce 21 [.slice a n k, .int .i64 kd] H = some (.tuple #[e.agg, .bool (fstV kd (l.map Ie.v)).isSome], H') ∧ Keep H.next H H' ∧ IeOk H' e ∧ e.v = (fstV kd (l.map Ie.v)).getD ve0 := by
  have hc := hs.cnt Ie.z (by decide)
  obtain ⟨H1, e1, n1, g1, k1⟩ := one H ie0.cells
  obtain ⟨e', H', z, k', h', hv⟩ := l0 (p := H.next) (kd := kd) hs hn hl l 0 H1 rfl (by omega) k1 (Nat.le_refl _) (by omega) g1
  exact ⟨e', H', call ⟨_, e1, z⟩, k', h', hv⟩
end F21
namespace F40
theorem ok {H : Heap} {e : Ie} (h : IeOk H e) : ∃ H', Ce 40 [e.agg] H = some (.bool (!decide (mayE e.v)), H') ∧ Keep H.next H H' := by
  obtain ⟨H1, e1, n1, g1, k1⟩ := one H e.cells
  obtain ⟨H2, c2, k2⟩ := F14.ok (h.keep k1)
  exact ⟨H2, call ⟨_, e1, _, _, _, _, _, _, _, rldAll g1, _, _, c2, rfl⟩, k1.trans (k2.weak (by omega))⟩
end F40
namespace F70
theorem l0 {G : Heap} {a : Option Addr} {n k : Nat} {l : List Ie} (hs : Ies G a n k l) (hl : ∀ e ∈ l, IeOk G e) (hn : n ≤ 3000000000000) : ∀ (rest : List Ie) (j : Nat) (H : Heap), l.drop j = rest → j + rest.length = n → Keep G.next G H → ∃ (t : Int) (H' : Heap), L0 a n k (.func (.func 40) #[] #[]) (n : Int) (j : Int) H (.int .i64 t, H') ∧ Keep G.next G H' ∧ (0 ≤ t ↔ ¬∀ e ∈ rest, mayE e.v) := by
  intro rest
  induction rest with
  | nil =>
    intro j H hd hj hk
    simp only [List.length_nil] at hj
    refine ⟨-1, H, L0_step ?_, hk, by simp⟩
    rw [if_neg (by omega)]
  | cons e rest ih =>
    intro j H hd hj hk
    simp only [List.length_cons] at hj
    obtain ⟨b, o, rfl⟩ := hs.at (by omega)
    have hx := drop_get hd
    have ra := (hs.keep hk).recs Ie.z hx
    obtain ⟨H1, c1, k1⟩ := F40.ok ((hl e (List.mem_of_getElem? hx)).keep hk)
    have hk1 := hk.trans (k1.weak hk.next)
    by_cases h1 : mayE e.v
    · obtain ⟨t, H', z, k', ht⟩ := ih (j + 1) H1 (drop_next hd) (by omega) hk1
      refine ⟨t, H', L0_step ?_, k', by rw [ht]; simp [h1]⟩
      rw [if_pos (by omega)]
      refine ⟨b, o, rfl, by omega, by omega, _, _, _, _, _, _, _, ra, 40, #[], #[], rfl, go40, _, H1, c1, ?_⟩
      rw [if_neg (by simpa using h1), i64 (by omega) (by omega)]
      exact_mod_cast z
    · refine ⟨j, H1, L0_step ?_, hk1, by simp [h1]⟩
      rw [if_pos (by omega)]
      refine ⟨b, o, rfl, by omega, by omega, _, _, _, _, _, _, _, ra, 40, #[], #[], rfl, go40, _, H1, c1, ?_⟩
      rw [if_pos (by simpa using h1)]
end F70
namespace F39
theorem ok {H : Heap} {a : Option Addr} {n k : Nat} {l : List Ie} (hs : Ies H a n k l) (hl : ∀ e ∈ l, IeOk H e) (hn : n ≤ 3000000000000) : ∃ H', Ce 39 [.slice a n k, .func (.func 40) #[] #[]] H = some (.bool (decide (¬∀ e ∈ l, mayE e.v)), H') ∧ Keep H.next H H' := by
  obtain ⟨t, H', z, k', ht⟩ := F70.l0 hs hl hn l 0 H rfl (by have := hs.cnt Ie.z (by decide); omega) (Keep.refl _ _)
  exact ⟨H', call ⟨t, H', F70.call z, by rw [show decide (t ≥ 0) = decide (¬∀ e ∈ l, mayE e.v) from decide_eq_decide.2 ht]⟩, k'⟩
end F39
end Go.X
