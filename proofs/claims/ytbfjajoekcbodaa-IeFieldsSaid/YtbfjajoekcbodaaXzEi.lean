/- What the small functions of the elements come to. -/
import Derived.Test.YtbfjajoekcbodaaXzEbS
import Derived.Test.YtbfjajoekcbodaaXzTeI
import Derived.Test.YtbfjajoekcbodaaXzLib
import Derived.Test.YtbfjajoekcbodaaXzBy
set_option linter.unusedVariables false
set_option linter.unusedSimpArgs false
set_option maxRecDepth 20000
namespace Go.X
open Go Go.RowKit Go.Proofs
noncomputable abbrev Ce := xC Try.prog good
namespace F43
theorem l0 {H : Heap} {a0 a1 : Option Addr} {n k0 k1 : Nat} {xs ys : List Int} (h0 : Ints .i64 H a0 n k0 xs) (h1 : Ints .i64 H a1 n k1 ys) (hn : n ≤ 140737488355328) : ∀ (d j : Nat), j + d = n → L0 a0 n k0 a1 n k1 (n : Int) (j : Int) H (.bool (decide (xs.drop j = ys.drop j)), H) := by
  have hl := h0.ln
  have hl1 := h1.ln
  intro d
  induction d with
  | zero =>
    intro j hj
    refine L0_step ?_
    rw [if_neg (by omega), List.drop_eq_nil_of_le (by omega), List.drop_eq_nil_of_le (by omega)]
    rfl
  | succ d ih =>
    intro j hj
    obtain ⟨b0, o0, rfl⟩ := h0.at (by omega)
    obtain ⟨b1, o1, rfl⟩ := h1.at (by omega)
    have hx := getD_some (xs := xs) (j := j) (by omega)
    have hy := getD_some (xs := ys) (j := j) (by omega)
    refine L0_step ?_
    rw [if_pos (by omega)]
    refine ⟨b0, o0, rfl, by omega, by omega, _, Ints.get h0 hx, b1, o1, rfl, by omega, by omega, _, Ints.get h1 hy, ?_⟩
    have ed : ∀ zs : List Int, j < zs.length → zs.drop j = zs.getD j 0 :: zs.drop (j + 1) := fun zs hz => by rw [List.drop_eq_getElem_cons hz]; simp [List.getD, hz]
    rw [ed xs (by omega), ed ys (by omega)]
    by_cases e : xs.getD j 0 = ys.getD j 0
    · rw [if_pos e, i64 (by omega) (by omega), e]
      simp only [List.cons.injEq, true_and]
      exact_mod_cast ih (j + 1) (by omega)
    · rw [if_neg e]
      simp only [List.cons.injEq, e, false_and, decide_false]
theorem ok {H : Heap} {a0 a1 : Option Addr} {n m k0 k1 : Nat} {xs ys : List Int} (h0 : Ints .i64 H a0 n k0 xs) (h1 : Ints .i64 H a1 m k1 ys) (hn : n ≤ 140737488355328) : Ce 43 [.slice a0 n k0, .slice a1 m k1] H = some (.bool (decide (xs = ys)), H) := by
  have hl := h0.ln
  have hl1 := h1.ln
  refine call ?_
  by_cases e : n = m
  · subst e
    rw [if_pos rfl]
    simpa using l0 h0 h1 hn n 0 (by omega)
  · rw [if_neg (by omega), decide_eq_false fun h => e (by rw [← hl, ← hl1, h])]
end F43
namespace F47
theorem ok {H : Heap} {a : Option Addr} {n k : Nat} {xs : List Int} (hs : Ints .i64 H a n k xs) (hn : n ≤ 17592186044416) : ∃ a' k' H', Ce 47 [.slice a n k] H = some (.slice a' n k', H') ∧ OwnI .i64 H.next H' a' n k' xs ∧ Keep H.next H H' := by
  by_cases h0 : a.isNone = true
  · have : a = none := by simpa using h0
    subst this
    obtain ⟨hl, ⟨_, rfl, rfl⟩ | ⟨h, _⟩ | ⟨b, o, h, _⟩⟩ := hs
    · exact ⟨none, 0, H, call ((if_pos h0).mpr rfl), ⟨hl, .inl ⟨rfl, rfl, rfl⟩⟩, Keep.refl _ _⟩
    · cases h
    · cases h
  · have e := OwnI.new (K := .i64) H []
    have hk := Keep.push (H := H) (.row [] true) (Nat.le_refl H.next)
    obtain ⟨a', k', H', h1, h2, h3⟩ := OwnI.app 8 e (hs.keep hk) (by simp) (by simp; omega) (by simp; omega)
    simp only [List.length_nil, Nat.zero_add, List.nil_append] at h1 h2
    refine ⟨a', k', H', call ?_, h2, hk.trans h3⟩
    rw [if_neg h0]
    exact ⟨_, rfl, _, _, _, _, h1, rfl⟩
end F47
/-- What an element says. -/
structure VE where
  kd : Int
  asn : Int
  rk : Int
  tk : Int
  l : List Int
  deriving DecidableEq
/-- An element, with the slice of its list. -/
structure Ie where
  v : VE
  a : Option Addr
  n : Nat
  k : Nat
abbrev Ie.cells (e : Ie) : List Value := [.int .i64 e.v.kd, .int .i64 e.v.asn, .int .i64 e.v.rk, .int .i64 e.v.tk, .slice e.a e.n e.k]
abbrev Ie.agg (e : Ie) : Value := .agg #[.int .i64 e.v.kd, .int .i64 e.v.asn, .int .i64 e.v.rk, .int .i64 e.v.tk, .slice e.a e.n e.k]
theorem Ie.z (e : Ie) : e.cells.length = 5 := rfl
abbrev ve0 : VE := ⟨0, 0, 0, 0, []⟩
abbrev ie0 : Ie := ⟨ve0, none, 0, 0⟩
structure IeOk (H : Heap) (e : Ie) : Prop where
  s : Ints .i64 H e.a e.n e.k e.v.l
  sm : e.n ≤ 17592186044416
theorem IeOk.keep {H H' : Heap} {e : Ie} (h : IeOk H e) (k : Keep H.next H H') : IeOk H' e := ⟨h.s.keep k, h.sm⟩
theorem IeOk.zero (H : Heap) : IeOk H ie0 := ⟨Ints.nil, by show 0 ≤ _; omega⟩
abbrev Ies (H : Heap) (a : Option Addr) (n k : Nat) (l : List Ie) : Prop := Sl H 5 a n k (l.flatMap Ie.cells)
def byteP (x : Int) : Prop := 0 ≤ x ∧ x ≤ 255
instance (x : Int) : Decidable (byteP x) := by unfold byteP; infer_instance
def asnP (x : Int) : Prop := 0 ≤ x ∧ x < 1099511627776
instance (x : Int) : Decidable (asnP x) := by unfold asnP; infer_instance
def tickP (x : Int) : Prop := -32768 ≤ x ∧ x ≤ 32767
instance (x : Int) : Decidable (tickP x) := by unfold tickP; infer_instance
def listP (l : List Int) : Prop := l.length ≤ 16 ∧ ∀ x ∈ l, byteP x
instance (l : List Int) : Decidable (listP l) := by unfold listP; infer_instance
/-- What an element's kind says of it. -/
def midP (v : VE) : Prop := (v.kd = 1 ∧ asnP v.asn ∧ byteP v.rk) ∨ (v.kd = 2 ∧ tickP v.tk) ∨ ((v.kd = 3 ∨ v.kd = 4) ∧ listP v.l)
instance (v : VE) : Decidable (midP v) := by unfold midP; infer_instance
/-- What is handed on of an element. -/
def plainV (v : VE) : VE := if v.kd = 1 then ⟨v.kd, v.asn, v.rk, 0, []⟩ else if v.kd = 2 then ⟨v.kd, 0, 0, v.tk, []⟩ else if v.kd = 3 ∨ v.kd = 4 then ⟨v.kd, 0, 0, 0, v.l⟩ else ⟨v.kd, 0, 0, 0, []⟩
def mayE (v : VE) : Prop := midP v ∧ v = plainV v
instance (v : VE) : Decidable (mayE v) := by unfold mayE; infer_instance
/-- The value behind an element. -/
def ofV (e : Ie) : Value := if e.v.kd = 1 then .iface 94 (.agg #[.int .i64 e.v.asn, .int .i64 e.v.rk]) else if e.v.kd = 2 then .iface 96 (.agg #[.int .i64 e.v.tk]) else if e.v.kd = 3 ∨ e.v.kd = 4 then .iface 98 (.agg #[.slice e.a e.n e.k]) else .nilIface
namespace F37
theorem ok (e : Ie) (H : Heap) : ∃ H', Ce 37 [e.agg] H = some (ofV e, H') ∧ Keep H.next H H' := by
  obtain ⟨H1, e1, n1, g1, k1⟩ := one H e.cells
  refine ⟨H1, call ⟨_, e1, _, rldc' g1 0, ?_⟩, k1⟩
  unfold ofV
  by_cases h1 : e.v.kd = 1
  · rw [if_pos h1, if_pos h1]; exact ⟨_, rldc' g1 1, _, rldc' g1 2, rfl⟩
  rw [if_neg h1, if_neg h1]
  by_cases h2 : e.v.kd = 2
  · rw [if_pos h2, if_pos h2]; exact ⟨_, rldc' g1 3, rfl⟩
  rw [if_neg h2, if_neg h2]
  by_cases h3 : e.v.kd = 3
  · rw [if_pos h3, if_pos (.inl h3)]
    refine L0_step ?_
    rw [if_pos (by simp [h3])]
    exact ⟨_, _, _, rldc' g1 4, rfl⟩
  rw [if_neg h3]
  refine L0_step ?_
  by_cases h4 : e.v.kd = 4
  · rw [if_pos (by simp [h4]), if_pos (.inr h4)]
    exact ⟨_, _, _, rldc' g1 4, rfl⟩
  · rw [if_neg (by simpa using h4), if_neg (by omega)]
end F37
theorem rowSet {H : Heap} {p i : Nat} {vs : List Value} (v : Value) (h : H.get p = .row vs true) (hp : p < H.next) (hi : i < vs.length) : ∃ H', stc H p i [v] = some H' ∧ H'.get p = .row (vs.set i v) true ∧ Chg (fun b => b = p) H H' ∧ H'.next = H.next :=
  ⟨_, rstc' h hi v, by simp, chgSet' _, rfl⟩
theorem rowAll {H : Heap} {p : Nat} {vs us : List Value} (h : H.get p = .row vs true) (hp : p < H.next) (hl : us.length = vs.length) : ∃ H', stc H p 0 us = some H' ∧ H'.get p = .row us true ∧ Chg (fun b => b = p) H H' ∧ H'.next = H.next :=
  ⟨_, rstAll h hl, by simp, chgSet' _, rfl⟩
theorem Chg.at {H H' : Heap} {p b : Nat} {o : AObj} (c : Chg (fun b => b = p) H H') (hb : b < H.next) (hne : b ≠ p) (h : H.get b = o) : H'.get b = o := by rw [c.get b hb hne]; exact h
theorem Chg.kp {H H' : Heap} {p base : Nat} (c : Chg (fun b => b = p) H H') (hb : base ≤ H.next) (hp : base ≤ p) : Keep base H H' := c.keep hb fun b _ h => by have h : b = p := h; omega
/-- A new row of so many noughts, filled at once. -/
theorem fill (H : Heap) (z us : List Value) (hl : us.length = z.length) : ∃ H2, stc (H.push (.row z true)) H.next 0 us = some H2 ∧ H2.get H.next = .row us true ∧ Keep H.next H H2 ∧ H2.next = H.next + 1 :=
  ⟨_, rstAll (vs := z) (by simp) hl, by simp, (Keep.push _ (Nat.le_refl _)).trans (Keep.set _ (Nat.le_refl _)), rfl⟩
theorem plug (H : Heap) (z : List Value) {base : Nat} (hb : base ≤ H.next) : Keep base H (H.push (.row z true)) := Keep.push _ hb
namespace F38
/-- The end of it: what has been filled is handed on. -/
theorem fin {H : Heap} {p q base : Nat} {us : List Value} {e : Ie} (g1 : H.get p = .row us true) (hl : us.length = 5) (g2 : H.get q = .row e.cells true) (hp : p < H.next) (hq : q < H.next) (hne : p ≠ q) (hb : base ≤ p) :
    ∃ H', stc H p 0 e.cells = some H' ∧ ldAll H q 0 e.cells ∧ ldAll H' p 0 e.cells ∧ Keep base H H' := by
  obtain ⟨H', s, g, c, n⟩ := rowAll (us := e.cells) g1 hp (by rw [hl]; rfl)
  exact ⟨H', s, rldAll g2, rldAll g, c.kp (by omega) hb⟩
theorem l1n {H : Heap} {p q base : Nat} {us : List Value} {e : Ie} (g1 : H.get p = .row us true) (hl : us.length = 5) (g2 : H.get q = .row e.cells true) (hp : p < H.next) (hq : q < H.next) (hne : p ≠ q) (hb : base ≤ p) :
    (∃ H', L1 .nilIface p 0 q 0 H (e.agg, H') ∧ Keep base H H') ∧ ∀ t v, t ≠ 98 → ∃ H', L1 (.iface t v) p 0 q 0 H (e.agg, H') ∧ Keep base H H' := by
  obtain ⟨H2, s2, g3, k2, n2⟩ := fill H [.slice none 0 0] [.slice none 0 0] rfl
  have kb : Keep base H H2 := k2.weak (by omega)
  obtain ⟨H3, s3, l3, l4, k3⟩ := fin (base := base) (e := e) (H := H2) (by rw [k2.get _ hp]; exact g1) hl (by rw [k2.get _ hq]; exact g2) (by omega) (by omega) hne hb
  exact ⟨⟨H3, L1_step (.inl ⟨rfl, _, rfl, H2, s2, _, _, _, _, _, _, _, l3, H3, s3, _, _, _, _, _, _, _, l4, rfl⟩), kb.trans k3⟩,
    fun t v ht => ⟨H3, L1_step (.inr ⟨t, v, rfl, (if_neg ht).mpr ⟨_, rfl, H2, s2, _, _, _, _, _, _, _, l3, H3, s3, _, _, _, _, _, _, _, l4, rfl⟩⟩), kb.trans k3⟩⟩
theorem l1l {H : Heap} {p q base : Nat} {us : List Value} {e : Ie} {a : Option Addr} {n k : Nat} (g1 : H.get p = .row us true) (hl : us.length = 5) (g2 : H.get q = .row e.cells true) (hp : p < H.next) (hq : q < H.next) (hne : p ≠ q) (hb : base ≤ p) (hbq : base ≤ q) (l : List Int) :
    ∃ H', L1 (.iface 98 (.agg #[.slice a n k])) p 0 q 0 H (Ie.agg ⟨⟨e.v.kd, e.v.asn, e.v.rk, e.v.tk, l⟩, a, n, k⟩, H') ∧ Keep base H H' := by
  obtain ⟨H2, s2, g3, k2, n2⟩ := fill H [.slice none 0 0] [.slice a n k] rfl
  have kb : Keep base H H2 := k2.weak (by omega)
  obtain ⟨H3, s3, g4, c3, n3⟩ := rowSet (H := H2) (p := q) (i := 4) (.slice a n k) (by rw [k2.get _ hq]; exact g2) (by omega) (by simp)
  have k3 := c3.kp (base := base) (by omega) hbq
  obtain ⟨H4, s4, l3, l4, k4⟩ := fin (base := base) (e := ⟨⟨e.v.kd, e.v.asn, e.v.rk, e.v.tk, l⟩, a, n, k⟩) (H := H3) (c3.at (by omega) hne (by rw [k2.get _ hp]; exact g1)) hl g4 (by omega) (by omega) hne hb
  exact ⟨H4, L1_step (.inr ⟨98, _, rfl, (if_pos rfl).mpr ⟨_, _, _, rfl, _, rfl, H2, s2, _, _, _, rldc' g3 0, H3, s3, _, _, _, _, _, _, _, l3, H4, s4, _, _, _, _, _, _, _, l4, rfl⟩⟩), (kb.trans k3).trans k4⟩
theorem l0o {H : Heap} {p q base : Nat} {us : List Value} {e : Ie} (g1 : H.get p = .row us true) (hl : us.length = 5) (g2 : H.get q = .row e.cells true) (hp : p < H.next) (hq : q < H.next) (hne : p ≠ q) (hb : base ≤ p) (hbq : base ≤ q) :
    (∃ H', L0 .nilIface p 0 q 0 H (e.agg, H') ∧ Keep base H H') ∧ (∀ t v, t ≠ 96 → t ≠ 98 → ∃ H', L0 (.iface t v) p 0 q 0 H (e.agg, H') ∧ Keep base H H') ∧
      (∀ t : Int, ∃ H', L0 (.iface 96 (.agg #[.int .i64 t])) p 0 q 0 H (Ie.agg ⟨⟨e.v.kd, e.v.asn, e.v.rk, t, e.v.l⟩, e.a, e.n, e.k⟩, H') ∧ Keep base H H') ∧
      ∀ a n k, ∃ H', L0 (.iface 98 (.agg #[.slice a n k])) p 0 q 0 H (Ie.agg ⟨e.v, a, n, k⟩, H') ∧ Keep base H H' := by
  refine ⟨?_, ?_, ?_, ?_⟩
  · obtain ⟨H2, s2, g3, k2, n2⟩ := fill H [.int .i64 0] [.int .i64 0] rfl
    obtain ⟨⟨H3, z, k3⟩, _⟩ := l1n (base := base) (e := e) (H := H2) (by rw [k2.get _ hp]; exact g1) hl (by rw [k2.get _ hq]; exact g2) (by omega) (by omega) hne hb
    exact ⟨H3, L0_step (.inl ⟨rfl, _, rfl, H2, s2, z⟩), (k2.weak (by omega)).trans k3⟩
  · intro t v h1 h2
    obtain ⟨H2, s2, g3, k2, n2⟩ := fill H [.int .i64 0] [.int .i64 0] rfl
    obtain ⟨_, z⟩ := l1n (base := base) (e := e) (H := H2) (by rw [k2.get _ hp]; exact g1) hl (by rw [k2.get _ hq]; exact g2) (by omega) (by omega) hne hb
    obtain ⟨H3, z, k3⟩ := z t v h2
    exact ⟨H3, L0_step (.inr ⟨t, v, rfl, (if_neg h1).mpr ⟨_, rfl, H2, s2, z⟩⟩), (k2.weak (by omega)).trans k3⟩
  · intro t
    obtain ⟨H2, s2, g3, k2, n2⟩ := fill H [.int .i64 0] [.int .i64 t] rfl
    obtain ⟨H4, s3, g4, c3, n3⟩ := rowSet (H := H2) (p := q) (i := 3) (.int .i64 t) (by rw [k2.get _ hq]; exact g2) (by omega) (by simp)
    obtain ⟨_, z⟩ := l1n (base := base) (e := ⟨⟨e.v.kd, e.v.asn, e.v.rk, t, e.v.l⟩, e.a, e.n, e.k⟩) (H := H4) (c3.at (by omega) hne (by rw [k2.get _ hp]; exact g1)) hl g4 (by omega) (by omega) hne hb
    obtain ⟨H3, z, k3⟩ := z 96 (.agg #[.int .i64 t]) (by decide)
    exact ⟨H3, L0_step (.inr ⟨96, _, rfl, (if_pos rfl).mpr ⟨_, rfl, _, rfl, H2, s2, _, rldc' g3 0, H4, s3, z⟩⟩), ((k2.weak (by omega)).trans (c3.kp (by omega) hbq)).trans k3⟩
  · intro a n k
    obtain ⟨H2, s2, g3, k2, n2⟩ := fill H [.int .i64 0] [.int .i64 0] rfl
    obtain ⟨H3, z, k3⟩ := l1l (base := base) (e := e) (H := H2) (a := a) (n := n) (k := k) (by rw [k2.get _ hp]; exact g1) hl (by rw [k2.get _ hq]; exact g2) (by omega) (by omega) hne hb hbq e.v.l
    exact ⟨H3, L0_step (.inr ⟨98, _, rfl, (if_neg (by decide)).mpr ⟨_, rfl, H2, s2, z⟩⟩), (k2.weak (by omega)).trans k3⟩
theorem start (kd : Int) (H : Heap) : ∃ H1 H2 H3, H1 = H.push (.row ie0.cells true) ∧ H2 = H1.push (.row ie0.cells true) ∧ stc H2 H1.next 0 (Ie.cells ⟨⟨kd, 0, 0, 0, []⟩, none, 0, 0⟩) = some H3 ∧ H3.get H.next = .row ie0.cells true ∧ H3.get H1.next = .row (Ie.cells ⟨⟨kd, 0, 0, 0, []⟩, none, 0, 0⟩) true ∧ H1.next = H.next + 1 ∧ H3.next = H.next + 2 ∧ Keep H.next H H3 := by
  obtain ⟨H1, H2, e1, e2, n1, n2, g1, g2, g3, k1, k2⟩ := two H ie0.cells ie0.cells
  obtain ⟨H3, s, g4, c, n3⟩ := rowAll (us := Ie.cells ⟨⟨kd, 0, 0, 0, []⟩, none, 0, 0⟩) g3 (by omega) rfl
  exact ⟨H1, H2, H3, e1, e2, s, c.at (by omega) (by omega) g2, g4, n1, by omega, k2.trans (c.kp (by omega) (by omega))⟩
theorem nil (kd : Int) (H : Heap) : ∃ H', Ce 38 [.int .i64 kd, .nilIface] H = some (Ie.agg ⟨⟨kd, 0, 0, 0, []⟩, none, 0, 0⟩, H') ∧ Keep H.next H H' := by
  obtain ⟨H1, H2, H3, e1, e2, s, g1, g2, n1, n3, k3⟩ := start kd H
  obtain ⟨H5, s5, g3, k5, n5⟩ := fill H3 [.int .i64 0, .int .i64 0] [.int .i64 0, .int .i64 0] rfl
  obtain ⟨⟨H', z, k'⟩, _⟩ := l0o (base := H.next) (p := H.next) (q := H1.next) (e := ⟨⟨kd, 0, 0, 0, []⟩, none, 0, 0⟩) (H := H5) (by rw [k5.get _ (by omega)]; exact g1) rfl (by rw [k5.get _ (by omega)]; exact g2) (by omega) (by omega) (by omega) (by omega) (by omega)
  exact ⟨H', call ⟨_, e1, _, e2, H3, s, .inl ⟨rfl, _, rfl, H5, s5, z⟩⟩, (k3.trans (k5.weak (by omega))).trans k'⟩
theorem syncs (kd x y : Int) (H : Heap) : ∃ H', Ce 38 [.int .i64 kd, .iface 94 (.agg #[.int .i64 x, .int .i64 y])] H = some (Ie.agg ⟨⟨kd, x, y, 0, []⟩, none, 0, 0⟩, H') ∧ Keep H.next H H' := by
  obtain ⟨H1, H2, H3, e1, e2, s, g1, g2, n1, n3, k3⟩ := start kd H
  obtain ⟨H5, s5, g3, k5, n5⟩ := fill H3 [.int .i64 0, .int .i64 0] [.int .i64 x, .int .i64 y] rfl
  obtain ⟨H6, s6, g6, c6, n6⟩ := rowSet (H := H5) (p := H1.next) (i := 1) (.int .i64 x) (by rw [k5.get _ (by omega)]; exact g2) (by omega) (by simp)
  obtain ⟨H7, s7, g7, c7, n7⟩ := rowSet (H := H6) (p := H1.next) (i := 2) (.int .i64 y) g6 (by omega) (by simp)
  have k6 := c6.kp (base := H.next) (by omega) (by omega)
  have k7 := c7.kp (base := H.next) (by omega) (by omega)
  have g36 : H6.get H3.next = .row [.int .i64 x, .int .i64 y] true := c6.at (by omega) (by omega) g3
  obtain ⟨_, z, _⟩ := l0o (base := H.next) (p := H.next) (q := H1.next) (e := ⟨⟨kd, x, y, 0, []⟩, none, 0, 0⟩) (H := H7) (c7.at (by omega) (by omega) (c6.at (by omega) (by omega) (by rw [k5.get _ (by omega)]; exact g1))) rfl g7 (by omega) (by omega) (by omega) (by omega) (by omega)
  obtain ⟨H', z, k'⟩ := z 94 (.agg #[.int .i64 x, .int .i64 y]) (by decide) (by decide)
  exact ⟨H', call ⟨_, e1, _, e2, H3, s, .inr ⟨94, _, rfl, (if_pos rfl).mpr ⟨_, _, rfl, _, rfl, H5, s5, _, rldc' g3 0, _, rldc' g3 1, H6, s6, H7, s7, rldc' g36 1, z⟩⟩⟩, (((k3.trans (k5.weak (by omega))).trans k6).trans k7).trans k'⟩
theorem cor (kd t : Int) (H : Heap) : ∃ H', Ce 38 [.int .i64 kd, .iface 96 (.agg #[.int .i64 t])] H = some (Ie.agg ⟨⟨kd, 0, 0, t, []⟩, none, 0, 0⟩, H') ∧ Keep H.next H H' := by
  obtain ⟨H1, H2, H3, e1, e2, s, g1, g2, n1, n3, k3⟩ := start kd H
  obtain ⟨H5, s5, g3, k5, n5⟩ := fill H3 [.int .i64 0, .int .i64 0] [.int .i64 0, .int .i64 0] rfl
  obtain ⟨_, _, z, _⟩ := l0o (base := H.next) (p := H.next) (q := H1.next) (e := ⟨⟨kd, 0, 0, 0, []⟩, none, 0, 0⟩) (H := H5) (by rw [k5.get _ (by omega)]; exact g1) rfl (by rw [k5.get _ (by omega)]; exact g2) (by omega) (by omega) (by omega) (by omega) (by omega)
  obtain ⟨H', z, k'⟩ := z t
  exact ⟨H', call ⟨_, e1, _, e2, H3, s, .inr ⟨96, _, rfl, (if_neg (by decide)).mpr ⟨_, rfl, H5, s5, z⟩⟩⟩, (k3.trans (k5.weak (by omega))).trans k'⟩
theorem lists (kd : Int) (a : Option Addr) (n k : Nat) (l : List Int) (H : Heap) : ∃ H', Ce 38 [.int .i64 kd, .iface 98 (.agg #[.slice a n k])] H = some (Ie.agg ⟨⟨kd, 0, 0, 0, l⟩, a, n, k⟩, H') ∧ Keep H.next H H' := by
  obtain ⟨H1, H2, H3, e1, e2, s, g1, g2, n1, n3, k3⟩ := start kd H
  obtain ⟨H5, s5, g3, k5, n5⟩ := fill H3 [.int .i64 0, .int .i64 0] [.int .i64 0, .int .i64 0] rfl
  obtain ⟨_, _, _, z⟩ := l0o (base := H.next) (p := H.next) (q := H1.next) (e := ⟨⟨kd, 0, 0, 0, []⟩, none, 0, 0⟩) (H := H5) (by rw [k5.get _ (by omega)]; exact g1) rfl (by rw [k5.get _ (by omega)]; exact g2) (by omega) (by omega) (by omega) (by omega) (by omega)
  obtain ⟨H', z, k'⟩ := z a n k
  exact ⟨H', call ⟨_, e1, _, e2, H3, s, .inr ⟨98, _, rfl, (if_neg (by decide)).mpr ⟨_, rfl, H5, s5, z⟩⟩⟩, (k3.trans (k5.weak (by omega))).trans k'⟩
/-- What is handed on of what is behind an element. -/
def plain (e : Ie) : Ie := if e.v.kd = 3 ∨ e.v.kd = 4 then ⟨plainV e.v, e.a, e.n, e.k⟩ else ⟨plainV e.v, none, 0, 0⟩
theorem ok (e : Ie) (H : Heap) : ∃ H', Ce 38 [.int .i64 e.v.kd, ofV e] H = some ((plain e).agg, H') ∧ Keep H.next H H' := by
  unfold ofV plain plainV
  by_cases h1 : e.v.kd = 1
  · rw [if_pos h1, if_pos h1, if_neg (by omega)]; exact syncs _ _ _ _
  rw [if_neg h1, if_neg h1]
  by_cases h2 : e.v.kd = 2
  · rw [if_pos h2, if_pos h2, if_neg (by omega)]; exact cor _ _ _
  rw [if_neg h2, if_neg h2]
  by_cases h3 : e.v.kd = 3 ∨ e.v.kd = 4
  · rw [if_pos h3, if_pos h3, if_pos h3]; exact lists _ _ _ _ _ _
  · rw [if_neg h3, if_neg h3, if_neg h3]; exact nil _ _
theorem plainOk {H : Heap} {e : Ie} (h : IeOk H e) : IeOk H (plain e) ∧ (plain e).v = plainV e.v := by
  unfold plain plainV
  by_cases h3 : e.v.kd = 3 ∨ e.v.kd = 4
  · rw [if_pos h3]
    refine ⟨⟨?_, h.sm⟩, rfl⟩
    show Ints .i64 H e.a e.n e.k _
    rw [if_neg (by omega), if_neg (by omega), if_pos h3]
    exact h.s
  · rw [if_neg h3]
    refine ⟨⟨?_, by show 0 ≤ _; omega⟩, rfl⟩
    show Ints .i64 H none 0 0 _
    have : (if e.v.kd = 1 then (⟨e.v.kd, e.v.asn, e.v.rk, 0, []⟩ : VE) else if e.v.kd = 2 then ⟨e.v.kd, 0, 0, e.v.tk, []⟩ else if e.v.kd = 3 ∨ e.v.kd = 4 then ⟨e.v.kd, 0, 0, 0, e.v.l⟩ else ⟨e.v.kd, 0, 0, 0, []⟩).l = [] := by
      rw [if_neg h3]; split
      · rfl
      · split <;> rfl
    rw [this]
    exact Ints.nil
end F38
end Go.X
