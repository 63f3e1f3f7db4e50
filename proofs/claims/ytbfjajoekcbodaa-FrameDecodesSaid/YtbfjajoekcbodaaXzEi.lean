/- What the small functions of the elements come to. -/
import Derived.Test.YtbfjajoekcbodaaXzEb
import Derived.Test.YtbfjajoekcbodaaXzTeI
import Derived.Test.YtbfjajoekcbodaaXzRd
import Derived.Test.YtbfjajoekcbodaaXzLib
import Derived.Test.YtbfjajoekcbodaaXzBy
set_option linter.unusedVariables false
set_option linter.unusedSimpArgs false
set_option maxRecDepth 20000
namespace Go.X
open Go Go.RowKit Go.Proofs
noncomputable abbrev Ce := xC Try.prog good
namespace F43
theorem l0 {H : Heap} {a0 a1 : Option Addr} {n k0 k1 : Nat} {xs ys : List Int} (h0 : Ints .i64 H a0 n k0 xs) (h1 : Ints .i64 H a1 n k1 ys) (hn : n ≤ 140737488355328) : ∀ (d j : Nat), j + d = n → L0 a0 n k0 a1 n k1 (n : Int) (j : Int) H (.bool (decide (xs.drop j = ys.drop j)), H) := by
  have hl := h0.ln
  have hl1 := h1.ln
  intro d
  induction d with
  | zero =>
    intro j hj
    refine L0_step ?_
    rw [if_neg (by omega), List.drop_eq_nil_of_le (by omega), List.drop_eq_nil_of_le (by omega)]
    rfl
  | succ d ih =>
    intro j hj
    obtain ⟨b0, o0, rfl⟩ := h0.at (by omega)
    obtain ⟨b1, o1, rfl⟩ := h1.at (by omega)
    have hx := getD_some (xs := xs) (j := j) (by omega)
    have hy := getD_some (xs := ys) (j := j) (by omega)
    refine L0_step ?_
    rw [if_pos (by omega)]
    refine ⟨b0, o0, rfl, by omega, by omega, _, Ints.get h0 hx, b1, o1, rfl, by omega, by omega, _, Ints.get h1 hy, ?_⟩
    have ed : ∀ zs : List Int, j < zs.length → zs.drop j = zs.getD j 0 :: zs.drop (j + 1) := fun zs hz => by rw [List.drop_eq_getElem_cons hz]; simp [List.getD, hz]
    rw [ed xs (by omega), ed ys (by omega)]
    by_cases e : xs.getD j 0 = ys.getD j 0
    · rw [if_pos e, i64 (by omega) (by omega), e]
      simp only [List.cons.injEq, true_and]
      exact_mod_cast ih (j + 1) (by omega)
    · rw [if_neg e]
      simp only [List.cons.injEq, e, false_and, decide_false]
theorem ok {H : Heap} {a0 a1 : Option Addr} {n m k0 k1 : Nat} {xs ys : List Int} (h0 : Ints .i64 H a0 n k0 xs) (h1 : Ints .i64 H a1 m k1 ys) (hn : n ≤ 140737488355328) : Ce 43 [.slice a0 n k0, .slice a1 m k1] H = some (.bool (decide (xs = ys)), H) := by
  have hl := h0.ln
  have hl1 := h1.ln
  refine call ?_
  by_cases e : n = m
  · subst e
    rw [if_pos rfl]
    simpa using l0 h0 h1 hn n 0 (by omega)
  · rw [if_neg (by omega), decide_eq_false fun h => e (by rw [← hl, ← hl1, h])]
end F43
namespace F47
theorem ok {H : Heap} {a : Option Addr} {n k : Nat} {xs : List Int} (hs : Ints .i64 H a n k xs) (hn : n ≤ 17592186044416) : ∃ a' k' H', Ce 47 [.slice a n k] H = some (.slice a' n k', H') ∧ OwnI .i64 H.next H' a' n k' xs ∧ Keep H.next H H' := by
  by_cases h0 : a.isNone = true
  · have : a = none := by simpa using h0
    subst this
    obtain ⟨hl, ⟨_, rfl, rfl⟩ | ⟨h, _⟩ | ⟨b, o, h, _⟩⟩ := hs
    · exact ⟨none, 0, H, call ((if_pos h0).mpr rfl), ⟨hl, .inl ⟨rfl, rfl, rfl⟩⟩, Keep.refl _ _⟩
    · cases h
    · cases h
  · have e := OwnI.new (K := .i64) H []
    have hk := Keep.push (H := H) (.row [] true) (Nat.le_refl H.next)
    obtain ⟨a', k', H', h1, h2, h3⟩ := OwnI.app 8 e (hs.keep hk) (by simp) (by simp; omega) (by simp; omega)
    simp only [List.length_nil, Nat.zero_add, List.nil_append] at h1 h2
    refine ⟨a', k', H', call ?_, h2, hk.trans h3⟩
    rw [if_neg h0]
    exact ⟨_, rfl, _, _, _, _, h1, rfl⟩
end F47
/-- What an element says. -/
structure VE where
  kd : Int
  asn : Int
  rk : Int
  tk : Int
  l : List Int
  deriving DecidableEq
/-- An element, with the slice of its list. -/
structure Ie where
  v : VE
  a : Option Addr
  n : Nat
  k : Nat
abbrev Ie.cells (e : Ie) : List Value := [.int .i64 e.v.kd, .int .i64 e.v.asn, .int .i64 e.v.rk, .int .i64 e.v.tk, .slice e.a e.n e.k]
abbrev Ie.agg (e : Ie) : Value := .agg #[.int .i64 e.v.kd, .int .i64 e.v.asn, .int .i64 e.v.rk, .int .i64 e.v.tk, .slice e.a e.n e.k]
theorem Ie.z (e : Ie) : e.cells.length = 5 := rfl
abbrev ve0 : VE := ⟨0, 0, 0, 0, []⟩
abbrev ie0 : Ie := ⟨ve0, none, 0, 0⟩
structure IeOk (H : Heap) (e : Ie) : Prop where
  s : Ints .i64 H e.a e.n e.k e.v.l
  sm : e.n ≤ 17592186044416
theorem IeOk.keep {H H' : Heap} {e : Ie} (h : IeOk H e) (k : Keep H.next H H') : IeOk H' e := ⟨h.s.keep k, h.sm⟩
theorem IeOk.zero (H : Heap) : IeOk H ie0 := ⟨Ints.nil, by show 0 ≤ _; omega⟩
abbrev Ies (H : Heap) (a : Option Addr) (n k : Nat) (l : List Ie) : Prop := Sl H 5 a n k (l.flatMap Ie.cells)
def byteP (x : Int) : Prop := 0 ≤ x ∧ x ≤ 255
instance (x : Int) : Decidable (byteP x) := by unfold byteP; infer_instance
def asnP (x : Int) : Prop := 0 ≤ x ∧ x < 1099511627776
instance (x : Int) : Decidable (asnP x) := by unfold asnP; infer_instance
def tickP (x : Int) : Prop := -32768 ≤ x ∧ x ≤ 32767
instance (x : Int) : Decidable (tickP x) := by unfold tickP; infer_instance
def listP (l : List Int) : Prop := l.length ≤ 16 ∧ ∀ x ∈ l, byteP x
instance (l : List Int) : Decidable (listP l) := by unfold listP; infer_instance
/-- What an element's kind says of it. -/
def midP (v : VE) : Prop := (v.kd = 1 ∧ asnP v.asn ∧ byteP v.rk) ∨ (v.kd = 2 ∧ tickP v.tk) ∨ ((v.kd = 3 ∨ v.kd = 4) ∧ listP v.l)
instance (v : VE) : Decidable (midP v) := by unfold midP; infer_instance
/-- What is handed on of an element. -/
def plainV (v : VE) : VE := if v.kd = 1 then ⟨v.kd, v.asn, v.rk, 0, []⟩ else if v.kd = 2 then ⟨v.kd, 0, 0, v.tk, []⟩ else if v.kd = 3 ∨ v.kd = 4 then ⟨v.kd, 0, 0, 0, v.l⟩ else ⟨v.kd, 0, 0, 0, []⟩
def mayE (v : VE) : Prop := midP v ∧ v = plainV v
instance (v : VE) : Decidable (mayE v) := by unfold mayE; infer_instance
/-- The value behind an element. -/
def ofV (e : Ie) : Value := if e.v.kd = 1 then .iface 94 (.agg #[.int .i64 e.v.asn, .int .i64 e.v.rk]) else if e.v.kd = 2 then .iface 96 (.agg #[.int .i64 e.v.tk]) else if e.v.kd = 3 ∨ e.v.kd = 4 then .iface 98 (.agg #[.slice e.a e.n e.k]) else .nilIface
namespace F37
theorem ok (e : Ie) (H : Heap) : ∃ H', Ce 37 [e.agg] H = some (ofV e, H') ∧ Keep H.next H H' := by
  obtain ⟨H1, e1, n1, g1, k1⟩ := one H e.cells
  refine ⟨H1, call ⟨_, e1, _, rldc' g1 0, ?_⟩, k1⟩
  unfold ofV
  by_cases h1 : e.v.kd = 1
  · rw [if_pos h1, if_pos h1]; exact ⟨_, rldc' g1 1, _, rldc' g1 2, rfl⟩
  rw [if_neg h1, if_neg h1]
  by_cases h2 : e.v.kd = 2
  · rw [if_pos h2, if_pos h2]; exact ⟨_, rldc' g1 3, rfl⟩
  rw [if_neg h2, if_neg h2]
  by_cases h3 : e.v.kd = 3
  · rw [if_pos h3, if_pos (.inl h3)]
    refine L0_step ?_
    rw [if_pos (by simp [h3])]
    exact ⟨_, _, _, rldc' g1 4, rfl⟩
  rw [if_neg h3]
  refine L0_step ?_
  by_cases h4 : e.v.kd = 4
  · rw [if_pos (by simp [h4]), if_pos (.inr h4)]
    exact ⟨_, _, _, rldc' g1 4, rfl⟩
  · rw [if_neg (by simpa using h4), if_neg (by omega)]
end F37
theorem rowSet {H : Heap} {p i : Nat} {vs : List Value} (v : Value) (h : H.get p = .row vs true) (hp : p < H.next) (hi : i < vs.length) : ∃ H', stc H p i [v] = some H' ∧ H'.get p = .row (vs.set i v) true ∧ Chg (fun b => b = p) H H' ∧ H'.next = H.next :=
  ⟨_, rstc' h hi v, by simp, chgSet' _, rfl⟩
theorem rowAll {H : Heap} {p : Nat} {vs us : List Value} (h : H.get p = .row vs true) (hp : p < H.next) (hl : us.length = vs.length) : ∃ H', stc H p 0 us = some H' ∧ H'.get p = .row us true ∧ Chg (fun b => b = p) H H' ∧ H'.next = H.next :=
  ⟨_, rstAll h hl, by simp, chgSet' _, rfl⟩
theorem Chg.at {H H' : Heap} {p b : Nat} {o : AObj} (c : Chg (fun b => b = p) H H') (hb : b < H.next) (hne : b ≠ p) (h : H.get b = o) : H'.get b = o := by rw [c.get b hb hne]; exact h
theorem Chg.kp {H H' : Heap} {p base : Nat} (c : Chg (fun b => b = p) H H') (hb : base ≤ H.next) (hp : base ≤ p) : Keep base H H' := c.keep hb fun b _ h => by have h : b = p := h; omega
/-- A new row of so many noughts, filled at once. -/
theorem fill (H : Heap) (z us : List Value) (hl : us.length = z.length) : ∃ H2, stc (H.push (.row z true)) H.next 0 us = some H2 ∧ H2.get H.next = .row us true ∧ Keep H.next H H2 ∧ H2.next = H.next + 1 :=
  ⟨_, rstAll (vs := z) (by simp) hl, by simp, (Keep.push _ (Nat.le_refl _)).trans (Keep.set _ (Nat.le_refl _)), rfl⟩
theorem plug (H : Heap) (z : List Value) {base : Nat} (hb : base ≤ H.next) : Keep base H (H.push (.row z true)) := Keep.push _ hb
namespace F38
/-- The end of it: what has been filled is handed on. -/
theorem fin {H : Heap} {p q base : Nat} {us : List Value} {e : Ie} (g1 : H.get p = .row us true) (hl : us.length = 5) (g2 : H.get q = .row e.cells true) (hp : p < H.next) (hq : q < H.next) (hne : p ≠ q) (hb : base ≤ p) :
    ∃ H', stc H p 0 e.cells = some H' ∧ ldAll H q 0 e.cells ∧ ldAll H' p 0 e.cells ∧ Keep base H H' := by
  obtain ⟨H', s, g, c, n⟩ := rowAll (us := e.cells) g1 hp (by rw [hl]; rfl)
  exact ⟨H', s, rldAll g2, rldAll g, c.kp (by omega) hb⟩
theorem l1n {H : Heap} {p q base : Nat} {us : List Value} {e : Ie} (g1 : H.get p = .row us true) (hl : us.length = 5) (g2 : H.get q = .row e.cells true) (hp : p < H.next) (hq : q < H.next) (hne : p ≠ q) (hb : base ≤ p) :
    (∃ H', L1 .nilIface p 0 q 0 H (e.agg, H') ∧ Keep base H H') ∧ ∀ t v, t ≠ 98 → ∃ H', L1 (.iface t v) p 0 q 0 H (e.agg, H') ∧ Keep base H H' := by
  obtain ⟨H2, s2, g3, k2, n2⟩ := fill H [.slice none 0 0] [.slice none 0 0] rfl
  have kb : Keep base H H2 := k2.weak (by omega)
  obtain ⟨H3, s3, l3, l4, k3⟩ := fin (base := base) (e := e) (H := H2) (by rw [k2.get _ hp]; exact g1) hl (by rw [k2.get _ hq]; exact g2) (by omega) (by omega) hne hb
  exact ⟨⟨H3, L1_step (.inl ⟨rfl, _, rfl, H2, s2, _, _, _, _, _, _, _, l3, H3, s3, _, _, _, _, _, _, _, l4, rfl⟩), kb.trans k3⟩,
    fun t v ht => ⟨H3, L1_step (.inr ⟨t, v, rfl, (if_neg ht).mpr ⟨_, rfl, H2, s2, _, _, _, _, _, _, _, l3, H3, s3, _, _, _, _, _, _, _, l4, rfl⟩⟩), kb.trans k3⟩⟩
theorem l1l {H : Heap} {p q base : Nat} {us : List Value} {e : Ie} {a : Option Addr} {n k : Nat} (g1 : H.get p = .row us true) (hl : us.length = 5) (g2 : H.get q = .row e.cells true) (hp : p < H.next) (hq : q < H.next) (hne : p ≠ q) (hb : base ≤ p) (hbq : base ≤ q) (l : List Int) :
    ∃ H', L1 (.iface 98 (.agg #[.slice a n k])) p 0 q 0 H (Ie.agg ⟨⟨e.v.kd, e.v.asn, e.v.rk, e.v.tk, l⟩, a, n, k⟩, H') ∧ Keep base H H' := by
  obtain ⟨H2, s2, g3, k2, n2⟩ := fill H [.slice none 0 0] [.slice a n k] rfl
  have kb : Keep base H H2 := k2.weak (by omega)
  obtain ⟨H3, s3, g4, c3, n3⟩ := rowSet (H := H2) (p := q) (i := 4) (.slice a n k) (by rw [k2.get _ hq]; exact g2) (by omega) (by simp)
  have k3 := c3.kp (base := base) (by omega) hbq
  obtain ⟨H4, s4, l3, l4, k4⟩ := fin (base := base) (e := ⟨⟨e.v.kd, e.v.asn, e.v.rk, e.v.tk, l⟩, a, n, k⟩) (H := H3) (c3.at (by omega) hne (by rw [k2.get _ hp]; exact g1)) hl g4 (by omega) (by omega) hne hb
  exact ⟨H4, L1_step (.inr ⟨98, _, rfl, (if_pos rfl).mpr ⟨_, _, _, rfl, _, rfl, H2, s2, _, _, _, rldc' g3 0, H3, s3, _, _, _, _, _, _, _, l3, H4, s4, _, _, _, _, _, _, _, l4, rfl⟩⟩), (kb.trans k3).trans k4⟩
theorem l0o {H : Heap} {p q base : Nat} {us : List Value} {e : Ie} (g1 : H.get p = .row us true) (hl : us.length = 5) (g2 : H.get q = .row e.cells true) (hp : p < H.next) (hq : q < H.next) (hne : p ≠ q) (hb : base ≤ p) (hbq : base ≤ q) :
    (∃ H', L0 .nilIface p 0 q 0 H (e.agg, H') ∧ Keep base H H') ∧ (∀ t v, t ≠ 96 → t ≠ 98 → ∃ H', L0 (.iface t v) p 0 q 0 H (e.agg, H') ∧ Keep base H H') ∧
      (∀ t : Int, ∃ H', L0 (.iface 96 (.agg #[.int .i64 t])) p 0 q 0 H (Ie.agg ⟨⟨e.v.kd, e.v.asn, e.v.rk, t, e.v.l⟩, e.a, e.n, e.k⟩, H') ∧ Keep base H H') ∧
      ∀ a n k, ∃ H', L0 (.iface 98 (.agg #[.slice a n k])) p 0 q 0 H (Ie.agg ⟨e.v, a, n, k⟩, H') ∧ Keep base H H' := by
  refine ⟨?_, ?_, ?_, ?_⟩
  · obtain ⟨H2, s2, g3, k2, n2⟩ := fill H [.int .i64 0] [.int .i64 0] rfl
    obtain ⟨⟨H3, z, k3⟩, _⟩ := l1n (base := base) (e := e) (H := H2) (by rw [k2.get _ hp]; exact g1) hl (by rw [k2.get _ hq]; exact g2) (by omega) (by omega) hne hb
    exact ⟨H3, L0_step (.inl ⟨rfl, _, rfl, H2, s2, z⟩), (k2.weak (by omega)).trans k3⟩
  · intro t v h1 h2
    obtain ⟨H2, s2, g3, k2, n2⟩ := fill H [.int .i64 0] [.int .i64 0] rfl
    obtain ⟨_, z⟩ := l1n (base := base) (e := e) (H := H2) (by rw [k2.get _ hp]; exact g1) hl (by rw [k2.get _ hq]; exact g2) (by omega) (by omega) hne hb
    obtain ⟨H3, z, k3⟩ := z t v h2
    exact ⟨H3, L0_step (.inr ⟨t, v, rfl, (if_neg h1).mpr ⟨_, rfl, H2, s2, z⟩⟩), (k2.weak (by omega)).trans k3⟩
  · intro t
    obtain ⟨H2, s2, g3, k2, n2⟩ := fill H [.int .i64 0] [.int .i64 t] rfl
    obtain ⟨H4, s3, g4, c3, n3⟩ := rowSet (H := H2) (p := q) (i := 3) (.int .i64 t) (by rw [k2.get _ hq]; exact g2) (by omega) (by simp)
    obtain ⟨_, z⟩ := l1n (base := base) (e := ⟨⟨e.v.kd, e.v.asn, e.v.rk, t, e.v.l⟩, e.a, e.n, e.k⟩) (H := H4) (c3.at (by omega) hne (by rw [k2.get _ hp]; exact g1)) hl g4 (by omega) (by omega) hne hb
    obtain ⟨H3, z, k3⟩ := z 96 (.agg #[.int .i64 t]) (by decide)
    exact ⟨H3, L0_step (.inr ⟨96, _, rfl, (if_pos rfl).mpr ⟨_, rfl, _, rfl, H2, s2, _, rldc' g3 0, H4, s3, z⟩⟩), ((k2.weak (by omega)).trans (c3.kp (by omega) hbq)).trans k3⟩
  · intro a n k
    obtain ⟨H2, s2, g3, k2, n2⟩ := fill H [.int .i64 0] [.int .i64 0] rfl
    obtain ⟨H3, z, k3⟩ := l1l (base := base) (e := e) (H := H2) (a := a) (n := n) (k := k) (by rw [k2.get _ hp]; exact g1) hl (by rw [k2.get _ hq]; exact g2) (by omega) (by omega) hne hb hbq e.v.l
    exact ⟨H3, L0_step (.inr ⟨98, _, rfl, (if_neg (by decide)).mpr ⟨_, rfl, H2, s2, z⟩⟩), (k2.weak (by omega)).trans k3⟩
theorem start (kd : Int) (H : Heap) : ∃ H1 H2 H3, H1 = H.push (.row ie0.cells true) ∧ H2 = H1.push (.row ie0.cells true) ∧ stc H2 H1.next 0 (Ie.cells ⟨⟨kd, 0, 0, 0, []⟩, none, 0, 0⟩) = some H3 ∧ H3.get H.next = .row ie0.cells true ∧ H3.get H1.next = .row (Ie.cells ⟨⟨kd, 0, 0, 0, []⟩, none, 0, 0⟩) true ∧ H1.next = H.next + 1 ∧ H3.next = H.next + 2 ∧ Keep H.next H H3 := by
  obtain ⟨H1, H2, e1, e2, n1, n2, g1, g2, g3, k1, k2⟩ := two H ie0.cells ie0.cells
  obtain ⟨H3, s, g4, c, n3⟩ := rowAll (us := Ie.cells ⟨⟨kd, 0, 0, 0, []⟩, none, 0, 0⟩) g3 (by omega) rfl
  exact ⟨H1, H2, H3, e1, e2, s, c.at (by omega) (by omega) g2, g4, n1, by omega, k2.trans (c.kp (by omega) (by omega))⟩
theorem nil (kd : Int) (H : Heap) : ∃ H', Ce 38 [.int .i64 kd, .nilIface] H = some (Ie.agg ⟨⟨kd, 0, 0, 0, []⟩, none, 0, 0⟩, H') ∧ Keep H.next H H' := by
  obtain ⟨H1, H2, H3, e1, e2, s, g1, g2, n1, n3, k3⟩ := start kd H
  obtain ⟨H5, s5, g3, k5, n5⟩ := fill H3 [.int .i64 0, .int .i64 0] [.int .i64 0, .int .i64 0] rfl
  obtain ⟨⟨H', z, k'⟩, _⟩ := l0o (base := H.next) (p := H.next) (q := H1.next) (e := ⟨⟨kd, 0, 0, 0, []⟩, none, 0, 0⟩) (H := H5) (by rw [k5.get _ (by omega)]; exact g1) rfl (by rw [k5.get _ (by omega)]; exact g2) (by omega) (by omega) (by omega) (by omega) (by omega)
  exact ⟨H', call ⟨_, e1, _, e2, H3, s, .inl ⟨rfl, _, rfl, H5, s5, z⟩⟩, (k3.trans (k5.weak (by omega))).trans k'⟩
theorem syncs (kd x y : Int) (H : Heap) : ∃ H', Ce 38 [.int .i64 kd, .iface 94 (.agg #[.int .i64 x, .int .i64 y])] H = some (Ie.agg ⟨⟨kd, x, y, 0, []⟩, none, 0, 0⟩, H') ∧ Keep H.next H H' := by
  obtain ⟨H1, H2, H3, e1, e2, s, g1, g2, n1, n3, k3⟩ := start kd H
  obtain ⟨H5, s5, g3, k5, n5⟩ := fill H3 [.int .i64 0, .int .i64 0] [.int .i64 x, .int .i64 y] rfl
  obtain ⟨H6, s6, g6, c6, n6⟩ := rowSet (H := H5) (p := H1.next) (i := 1) (.int .i64 x) (by rw [k5.get _ (by omega)]; exact g2) (by omega) (by simp)
  obtain ⟨H7, s7, g7, c7, n7⟩ := rowSet (H := H6) (p := H1.next) (i := 2) (.int .i64 y) g6 (by omega) (by simp)
  have k6 := c6.kp (base := H.next) (by omega) (by omega)
  have k7 := c7.kp (base := H.next) (by omega) (by omega)
  have g36 : H6.get H3.next = .row [.int .i64 x, .int .i64 y] true := c6.at (by omega) (by omega) g3
  obtain ⟨_, z, _⟩ := l0o (base := H.next) (p := H.next) (q := H1.next) (e := ⟨⟨kd, x, y, 0, []⟩, none, 0, 0⟩) (H := H7) (c7.at (by omega) (by omega) (c6.at (by omega) (by omega) (by rw [k5.get _ (by omega)]; exact g1))) rfl g7 (by omega) (by omega) (by omega) (by omega) (by omega)
  obtain ⟨H', z, k'⟩ := z 94 (.agg #[.int .i64 x, .int .i64 y]) (by decide) (by decide)
  exact ⟨H', call ⟨_, e1, _, e2, H3, s, .inr ⟨94, _, rfl, (if_pos rfl).mpr ⟨_, _, rfl, _, rfl, H5, s5, _, rldc' g3 0, _, rldc' g3 1, H6, s6, H7, s7, rldc' g36 1, z⟩⟩⟩, (((k3.trans (k5.weak (by omega))).trans k6).trans k7).trans k'⟩
theorem cor (kd t : Int) (H : Heap) : ∃ H', Ce 38 [.int .i64 kd, .iface 96 (.agg #[.int .i64 t])] H = some (Ie.agg ⟨⟨kd, 0, 0, t, []⟩, none, 0, 0⟩, H') ∧ Keep H.next H H' := by
  obtain ⟨H1, H2, H3, e1, e2, s, g1, g2, n1, n3, k3⟩ := start kd H
  obtain ⟨H5, s5, g3, k5, n5⟩ := fill H3 [.int .i64 0, .int .i64 0] [.int .i64 0, .int .i64 0] rfl
  obtain ⟨_, _, z, _⟩ := l0o (base := H.next) (p := H.next) (q := H1.next) (e := ⟨⟨kd, 0, 0, 0, []⟩, none, 0, 0⟩) (H := H5) (by rw [k5.get _ (by omega)]; exact g1) rfl (by rw [k5.get _ (by omega)]; exact g2) (by omega) (by omega) (by omega) (by omega) (by omega)
  obtain ⟨H', z, k'⟩ := z t
  exact ⟨H', call ⟨_, e1, _, e2, H3, s, .inr ⟨96, _, rfl, (if_neg (by decide)).mpr ⟨_, rfl, H5, s5, z⟩⟩⟩, (k3.trans (k5.weak (by omega))).trans k'⟩
theorem lists (kd : Int) (a : Option Addr) (n k : Nat) (l : List Int) (H : Heap) : ∃ H', Ce 38 [.int .i64 kd, .iface 98 (.agg #[.slice a n k])] H = some (Ie.agg ⟨⟨kd, 0, 0, 0, l⟩, a, n, k⟩, H') ∧ Keep H.next H H' := by
  obtain ⟨H1, H2, H3, e1, e2, s, g1, g2, n1, n3, k3⟩ := start kd H
  obtain ⟨H5, s5, g3, k5, n5⟩ := fill H3 [.int .i64 0, .int .i64 0] [.int .i64 0, .int .i64 0] rfl
  obtain ⟨_, _, _, z⟩ := l0o (base := H.next) (p := H.next) (q := H1.next) (e := ⟨⟨kd, 0, 0, 0, []⟩, none, 0, 0⟩) (H := H5) (by rw [k5.get _ (by omega)]; exact g1) rfl (by rw [k5.get _ (by omega)]; exact g2) (by omega) (by omega) (by omega) (by omega) (by omega)
  obtain ⟨H', z, k'⟩ := z a n k
  exact ⟨H', call ⟨_, e1, _, e2, H3, s, .inr ⟨98, _, rfl, (if_neg (by decide)).mpr ⟨_, rfl, H5, s5, z⟩⟩⟩, (k3.trans (k5.weak (by omega))).trans k'⟩
/-- What is handed on of what is behind an element. -/
def plain (e : Ie) : Ie := if e.v.kd = 3 ∨ e.v.kd = 4 then ⟨plainV e.v, e.a, e.n, e.k⟩ else ⟨plainV e.v, none, 0, 0⟩
theorem ok (e : Ie) (H : Heap) : ∃ H', Ce 38 [.int .i64 e.v.kd, ofV e] H = some ((plain e).agg, H') ∧ Keep H.next H H' := by
  unfold ofV plain plainV
  by_cases h1 : e.v.kd = 1
  · rw [if_pos h1, if_pos h1, if_neg (by omega)]; exact syncs _ _ _ _
  rw [if_neg h1, if_neg h1]
  by_cases h2 : e.v.kd = 2
  · rw [if_pos h2, if_pos h2, if_neg (by omega)]; exact cor _ _ _
  rw [if_neg h2, if_neg h2]
  by_cases h3 : e.v.kd = 3 ∨ e.v.kd = 4
  · rw [if_pos h3, if_pos h3, if_pos h3]; exact lists _ _ _ _ _ _
  · rw [if_neg h3, if_neg h3, if_neg h3]; exact nil _ _
theorem plainOk {H : Heap} {e : Ie} (h : IeOk H e) : IeOk H (plain e) ∧ (plain e).v = plainV e.v := by
  unfold plain plainV
  by_cases h3 : e.v.kd = 3 ∨ e.v.kd = 4
  · rw [if_pos h3]
    refine ⟨⟨?_, h.sm⟩, rfl⟩
    show Ints .i64 H e.a e.n e.k _
    rw [if_neg (by omega), if_neg (by omega), if_pos h3]
    exact h.s
  · rw [if_neg h3]
    refine ⟨⟨?_, by show 0 ≤ _; omega⟩, rfl⟩
    show Ints .i64 H none 0 0 _
    have : (if e.v.kd = 1 then (⟨e.v.kd, e.v.asn, e.v.rk, 0, []⟩ : VE) else if e.v.kd = 2 then ⟨e.v.kd, 0, 0, e.v.tk, []⟩ else if e.v.kd = 3 ∨ e.v.kd = 4 then ⟨e.v.kd, 0, 0, 0, e.v.l⟩ else ⟨e.v.kd, 0, 0, 0, []⟩).l = [] := by
      rw [if_neg h3]; split
      · rfl
      · split <;> rfl
    rw [this]
    exact Ints.nil
end F38
theorem m94 : xmethod Try.prog 94 "campanile/ie.may" = some 98 := by kernel_rfl
theorem m96 : xmethod Try.prog 96 "campanile/ie.may" = some 100 := by kernel_rfl
theorem m98 : xmethod Try.prog 98 "campanile/ie.may" = some 102 := by kernel_rfl
theorem p94 : xmethod Try.prog 94 "campanile/ie.put" = some 99 := by kernel_rfl
theorem p96 : xmethod Try.prog 96 "campanile/ie.put" = some 101 := by kernel_rfl
theorem p98 : xmethod Try.prog 98 "campanile/ie.put" = some 103 := by kernel_rfl
theorem go98 : fnGoes Try.prog 98 = true := by kernel_rfl
theorem go99 : fnGoes Try.prog 99 = true := by kernel_rfl
theorem go100 : fnGoes Try.prog 100 = true := by kernel_rfl
theorem go101 : fnGoes Try.prog 101 = true := by kernel_rfl
theorem go102 : fnGoes Try.prog 102 = true := by kernel_rfl
theorem go103 : fnGoes Try.prog 103 = true := by kernel_rfl
theorem go40 : fnGoes Try.prog 40 = true := by kernel_rfl
theorem go105 : fnGoes Try.prog 105 = true := by kernel_rfl
namespace F98
theorem ok (x y : Int) (H : Heap) : ∃ H', Ce 98 [.agg #[.int .i64 x, .int .i64 y]] H = some (.bool (decide (asnP x ∧ byteP y)), H') ∧ Keep H.next H H' := by
  obtain ⟨H1, e1, n1, g1, k1⟩ := one H [.int .i64 x, .int .i64 y]
  refine ⟨H1, call ⟨_, e1, _, rldc' g1 0, ?_⟩, k1⟩
  by_cases h1 : x ≥ 0
  · rw [if_pos h1]
    refine ⟨_, rldc' g1 0, ?_⟩
    by_cases h2 : x < 1099511627776
    · rw [if_pos h2]
      refine ⟨_, rldc' g1 1, ?_⟩
      by_cases h3 : y ≥ 0
      · rw [if_pos h3]
        refine ⟨_, rldc' g1 1, ?_⟩
        rw [show decide (asnP x ∧ byteP y) = decide (y ≤ 255) from decide_eq_decide.2 ⟨fun h => h.2.2, fun h => ⟨⟨h1, h2⟩, h3, h⟩⟩]
      · rw [if_neg h3, decide_eq_false fun h => h3 h.2.1]
    · rw [if_neg h2, decide_eq_false fun h => h2 h.1.2]
  · rw [if_neg h1, decide_eq_false fun h => h1 h.1.1]
end F98
namespace F100
theorem ok (x : Int) (H : Heap) : ∃ H', Ce 100 [.agg #[.int .i64 x]] H = some (.bool (decide (tickP x)), H') ∧ Keep H.next H H' := by
  obtain ⟨H1, e1, n1, g1, k1⟩ := one H [.int .i64 x]
  refine ⟨H1, call ⟨_, e1, _, rldc' g1 0, ?_⟩, k1⟩
  by_cases h1 : x ≥ -32768
  · rw [if_pos h1]
    refine ⟨_, rldc' g1 0, ?_⟩
    rw [show decide (tickP x) = decide (x ≤ 32767) from decide_eq_decide.2 ⟨fun h => h.2, fun h => ⟨h1, h⟩⟩]
  · rw [if_neg h1, decide_eq_false fun h => h1 h.1]
end F100
namespace F105
theorem ok (x : Int) (H : Heap) : Ce 105 [.int .i64 x] H = some (.bool (decide (¬byteP x)), H) := by
  refine call ?_
  by_cases h : x < 0
  · rw [if_pos h, decide_eq_true (show ¬byteP x from fun b => by have := b.1; omega)]
  · rw [if_neg h, show decide (¬byteP x) = decide (x > 255) from decide_eq_decide.2 ⟨fun b => by unfold byteP at b; omega, fun b c => by have := c.2; omega⟩]
end F105
namespace F106
theorem l0 {H : Heap} {a : Option Addr} {n k : Nat} {xs : List Int} (hs : Ints .i64 H a n k xs) (hn : n ≤ 140737488355328) : ∀ (rest : List Int) (j : Nat), xs.drop j = rest → j + rest.length = n → ∃ t : Int, L0 a n k (.func (.func 105) #[] #[]) (n : Int) (j : Int) H (.int .i64 t, H) ∧ (0 ≤ t ↔ ¬∀ x ∈ rest, byteP x) := by
  intro rest
  induction rest with
  | nil =>
    intro j hd hj
    simp only [List.length_nil] at hj
    refine ⟨-1, L0_step ?_, by simp⟩
    rw [if_neg (by omega)]
  | cons x rest ih =>
    intro j hd hj
    simp only [List.length_cons] at hj
    obtain ⟨b, o, rfl⟩ := hs.at (by omega)
    by_cases e : byteP x
    · obtain ⟨t, z, ht⟩ := ih (j + 1) (drop_next hd) (by omega)
      refine ⟨t, L0_step ?_, by rw [ht]; simp [e]⟩
      rw [if_pos (by omega)]
      refine ⟨b, o, rfl, by omega, by omega, x, Ints.get hs (drop_get hd), 105, #[], #[], rfl, go105, _, H, F105.ok x H, ?_⟩
      rw [if_neg (by simpa using e), i64 (by omega) (by omega)]
      exact_mod_cast z
    · refine ⟨j, L0_step ?_, by simp [e]⟩
      rw [if_pos (by omega)]
      refine ⟨b, o, rfl, by omega, by omega, x, Ints.get hs (drop_get hd), 105, #[], #[], rfl, go105, _, H, F105.ok x H, ?_⟩
      rw [if_pos (by simpa using e)]
end F106
namespace F104
theorem ok {H : Heap} {a : Option Addr} {n k : Nat} {xs : List Int} (hs : Ints .i64 H a n k xs) (hn : n ≤ 140737488355328) : Ce 104 [.slice a n k, .func (.func 105) #[] #[]] H = some (.bool (decide (¬∀ x ∈ xs, byteP x)), H) := by
  obtain ⟨t, z, ht⟩ := F106.l0 hs hn xs 0 rfl (by have := hs.ln; omega)
  exact call ⟨t, H, F106.call z, by rw [show decide (t ≥ 0) = decide (¬∀ x ∈ xs, byteP x) from decide_eq_decide.2 ht]⟩
end F104
namespace F102
theorem ok {H : Heap} {a : Option Addr} {n k : Nat} {xs : List Int} (hs : Ints .i64 H a n k xs) (hn : n ≤ 17592186044416) : ∃ H', Ce 102 [.agg #[.slice a n k]] H = some (.bool (decide (listP xs)), H') ∧ Keep H.next H H' := by
  have hl := hs.ln
  obtain ⟨H1, e1, n1, g1, k1⟩ := one H [.slice a n k]
  refine ⟨H1, call ⟨_, e1, _, _, _, rldc' g1 0, ?_⟩, k1⟩
  by_cases h1 : (n : Int) ≤ 16
  · rw [if_pos h1]
    refine ⟨_, _, _, rldc' g1 0, _, H1, F104.ok (hs.keep k1) (by omega), ?_⟩
    rw [show decide (listP xs) = !decide (¬∀ x ∈ xs, byteP x) by
      by_cases h : ∀ x ∈ xs, byteP x
      · rw [decide_eq_true (show listP xs from ⟨by omega, h⟩), decide_eq_false fun c => c h]; rfl
      · rw [decide_eq_false fun c : listP xs => h c.2, decide_eq_true h]; rfl]
  · rw [if_neg h1, decide_eq_false fun c : listP xs => h1 (by have := c.1; omega)]
end F102
theorem ofV_may {H : Heap} {e : Ie} (h : IeOk H e) : (ofV e = .nilIface ∧ ¬mayE e.v) ∨ ∃ t v g, ofV e = .iface t v ∧ xmethod Try.prog t "campanile/ie.may" = some g ∧ fnGoes Try.prog g = true ∧ ∃ H', Ce g [v] H = some (.bool (decide (midP e.v)), H') ∧ Keep H.next H H' := by
  unfold ofV
  by_cases h1 : e.v.kd = 1
  · rw [if_pos h1]
    obtain ⟨H', c, k⟩ := F98.ok e.v.asn e.v.rk H
    refine .inr ⟨94, _, 98, rfl, m94, go98, H', ?_, k⟩
    rw [c, show decide (asnP e.v.asn ∧ byteP e.v.rk) = decide (midP e.v) from decide_eq_decide.2 ⟨fun h => .inl ⟨h1, h⟩, fun h => by rcases h with h | h | h; exact h.2; have := h.1; omega; have := h.1; omega⟩]
  rw [if_neg h1]
  by_cases h2 : e.v.kd = 2
  · rw [if_pos h2]
    obtain ⟨H', c, k⟩ := F100.ok e.v.tk H
    refine .inr ⟨96, _, 100, rfl, m96, go100, H', ?_, k⟩
    rw [c, show decide (tickP e.v.tk) = decide (midP e.v) from decide_eq_decide.2 ⟨fun h => .inr (.inl ⟨h2, h⟩), fun h => by rcases h with h | h | h; have := h.1; omega; exact h.2; have := h.1; omega⟩]
  rw [if_neg h2]
  by_cases h3 : e.v.kd = 3 ∨ e.v.kd = 4
  · rw [if_pos h3]
    obtain ⟨H', c, k⟩ := F102.ok h.s h.sm
    refine .inr ⟨98, _, 102, rfl, m98, go102, H', ?_, k⟩
    rw [c, show decide (listP e.v.l) = decide (midP e.v) from decide_eq_decide.2 ⟨fun h => .inr (.inr ⟨h3, h⟩), fun h => by rcases h with h | h | h; have := h.1; omega; have := h.1; omega; exact h.2⟩]
  · rw [if_neg h3]
    refine .inl ⟨rfl, fun m => ?_⟩
    rcases m.1 with h | h | h
    · have := h.1; omega
    · have := h.1; omega
    · exact h3 h.1
theorem VE.ext_iff' (a b : VE) : a = b ↔ a.kd = b.kd ∧ a.asn = b.asn ∧ a.rk = b.rk ∧ a.tk = b.tk ∧ a.l = b.l := by cases a; cases b; simp
namespace F17
theorem ok {H : Heap} {e f : Ie} (h : IeOk H e) (h2 : IeOk H f) : ∃ H', Ce 17 [e.agg, f.agg] H = some (.bool (decide (e.v = f.v)), H') ∧ Keep H.next H H' := by
  obtain ⟨H1, H2, e1, e2, n1, n2, g1, g2, g3, k1, k2⟩ := two H e.cells f.cells
  refine ⟨H2, call ⟨_, e1, _, e2, _, rldc' g2 0, _, rldc' g3 0, ?_⟩, k2⟩
  by_cases c1 : e.v.kd = f.v.kd
  · rw [if_pos c1]
    refine ⟨_, rldc' g2 1, _, rldc' g3 1, ?_⟩
    by_cases c2 : e.v.asn = f.v.asn
    · rw [if_pos c2]
      refine ⟨_, rldc' g2 2, _, rldc' g3 2, ?_⟩
      by_cases c3 : e.v.rk = f.v.rk
      · rw [if_pos c3]
        refine ⟨_, rldc' g2 3, _, rldc' g3 3, ?_⟩
        by_cases c4 : e.v.tk = f.v.tk
        · rw [if_pos c4]
          refine ⟨_, _, _, rldc' g2 4, _, _, _, rldc' g3 4, _, _, F43.ok (h.s.keep k2) (h2.s.keep k2) (by have := h.sm; omega), ?_⟩
          rw [show decide (e.v = f.v) = decide (e.v.l = f.v.l) from decide_eq_decide.2 ⟨fun h => by rw [h], fun h => (VE.ext_iff' _ _).2 ⟨c1, c2, c3, c4, h⟩⟩]
        · rw [if_neg c4, decide_eq_false fun h => c4 (by rw [h])]
      · rw [if_neg c3, decide_eq_false fun h => c3 (by rw [h])]
    · rw [if_neg c2, decide_eq_false fun h => c2 (by rw [h])]
  · rw [if_neg c1, decide_eq_false fun h => c1 (by rw [h])]
end F17
namespace F14
theorem ok {H : Heap} {e : Ie} (h : IeOk H e) : ∃ H', Ce 14 [e.agg] H = some (.bool (decide (mayE e.v)), H') ∧ Keep H.next H H' := by
  obtain ⟨H1, e1, n1, g1, k1⟩ := one H e.cells
  obtain ⟨H2, c2, k2⟩ := F37.ok e H1
  have k02 := k1.trans (k2.weak (by omega : H.next ≤ H1.next))
  have h2 := h.keep k02
  have n2 := k2.next
  rcases ofV_may h2 with ⟨ho, hm⟩ | ⟨t, v, g, ho, hme, hgo, H3, c3, k3⟩
  · refine ⟨H2, call ⟨_, e1, _, _, _, _, _, _, _, rldAll g1, _, _, c2, .inl ⟨ho, ?_⟩⟩, k02⟩
    rw [decide_eq_false hm]
  · have k03 := k02.trans (k3.weak (by omega))
    by_cases hm : midP e.v
    · have g3 : H3.get H.next = .row e.cells true := by rw [k3.get _ (by omega), k2.get _ (by omega)]; exact g1
      obtain ⟨H4, c4, k4⟩ := F38.ok e H3
      have n3 := k3.next
      have n4 := k4.next
      have k04 := k03.trans (k4.weak (by omega))
      have h4 := (F38.plainOk (h.keep k04))
      obtain ⟨H5, c5, k5⟩ := F17.ok (h.keep k04) h4.1
      have g4 : H4.get H.next = .row e.cells true := by rw [k4.get _ (by omega)]; exact g3
      refine ⟨H5, call ⟨_, e1, _, _, _, _, _, _, _, rldAll g1, _, _, c2, .inr ⟨t, v, ho, g, hme, hgo, _, _, c3, ?_⟩⟩, k04.trans (k5.weak (by omega))⟩
      rw [if_pos (by simpa using hm)]
      refine ⟨_, _, _, _, _, _, _, rldAll g3, _, rldc' g3 0, _, _, _, _, _, _, _, _, ?_, _, _, c5, rldAll g4, ?_⟩
      · rw [← ho]; exact c4
      · rw [h4.2, show decide (mayE e.v) = decide (e.v = plainV e.v) from decide_eq_decide.2 ⟨fun h => h.2, fun h => ⟨hm, h⟩⟩]
    · refine ⟨H3, call ⟨_, e1, _, _, _, _, _, _, _, rldAll g1, _, _, c2, .inr ⟨t, v, ho, g, hme, hgo, _, _, c3, ?_⟩⟩, k03⟩
      rw [if_neg (by simpa using hm), decide_eq_false fun m : mayE e.v => hm m.1]
end F14
/-- What the laws go through. -/
def lightP (l : List Ie) : Prop := l.length ≤ 20 ∧ ∀ e ∈ l, e.n ≤ 100
instance (l : List Ie) : Decidable (lightP l) := by unfold lightP; infer_instance
theorem scratchE {H : Heap} {e : Ie} : ∃ H2, stc (H.push (.row ie0.cells true)) H.next 0 e.cells = some H2 ∧ H2.get H.next = .row e.cells true ∧ Keep H.next H H2 ∧ H2.next = H.next + 1 := fill H _ _ rfl
namespace F13
theorem l0 {G : Heap} {a : Option Addr} {n k : Nat} {l : List Ie} (hs : Ies G a n k l) (hn : n ≤ 3000000000000) : ∀ (rest : List Ie) (j : Nat) (H : Heap), l.drop j = rest → j + rest.length = n → j ≤ 20 → Keep G.next G H → ∃ (t : Int) (H' : Heap), L0 a n k (n : Int) (j : Int) H (.int .i64 t, H') ∧ Keep G.next G H' ∧ (0 < t ↔ ¬(j + rest.length ≤ 20 ∧ ∀ e ∈ rest, e.n ≤ 100)) := by
  intro rest
  induction rest with
  | nil =>
    intro j H hd hj h20 hk
    simp only [List.length_nil] at hj
    refine ⟨0, H, L0_step ?_, hk, by simp; omega⟩
    rw [if_neg (by omega)]
  | cons e rest ih =>
    intro j H hd hj h20 hk
    simp only [List.length_cons] at hj
    obtain ⟨b, o, rfl⟩ := hs.at (by omega)
    have ra := (hs.keep hk).recs Ie.z (drop_get hd)
    obtain ⟨H2, s2, g2, k2, n2⟩ := scratchE (H := H) (e := e)
    have hk2 := hk.trans (k2.weak hk.next)
    by_cases h1 : (j : Int) ≥ 20
    · refine ⟨j + 1, H2, L0_step ?_, hk2, by simp; omega⟩
      rw [if_pos (by omega)]
      refine ⟨b, o, rfl, by omega, by omega, _, _, _, _, _, _, _, ra, _, rfl, H2, s2, ?_⟩
      rw [if_pos h1]
      refine L1_step ?_
      rw [if_pos rfl, i64 (by omega) (by omega)]
    · by_cases h2 : (e.n : Int) > 100
      · refine ⟨j + 1, H2, L0_step ?_, hk2, by simp; omega⟩
        rw [if_pos (by omega)]
        refine ⟨b, o, rfl, by omega, by omega, _, _, _, _, _, _, _, ra, _, rfl, H2, s2, ?_⟩
        rw [if_neg h1]
        refine ⟨_, _, _, rldc' g2 4, L1_step ?_⟩
        rw [if_pos (by simpa using h2), i64 (by omega) (by omega)]
      · obtain ⟨t, H', z, k', ht⟩ := ih (j + 1) H2 (drop_next hd) (by omega) (by omega) hk2
        refine ⟨t, H', L0_step ?_, k', ?_⟩
        · rw [if_pos (by omega)]
          refine ⟨b, o, rfl, by omega, by omega, _, _, _, _, _, _, _, ra, _, rfl, H2, s2, ?_⟩
          rw [if_neg h1]
          refine ⟨_, _, _, rldc' g2 4, L1_step ?_⟩
          rw [if_neg (by simpa using h2), i64 (by omega) (by omega)]
          exact_mod_cast z
        · rw [ht]
          simp only [List.length_cons, List.mem_cons, forall_eq_or_imp]
          constructor
          · exact fun h c => h ⟨by omega, c.2.2⟩
          · exact fun h c => h ⟨by omega, by omega, c.2⟩
theorem ok {H : Heap} {a : Option Addr} {n k : Nat} {l : List Ie} (hs : Ies H a n k l) (hn : n ≤ 3000000000000) : ∃ (t : Int) (H' : Heap), Ce 13 [.slice a n k] H = some (.int .i64 t, H') ∧ Keep H.next H H' ∧ (0 < t ↔ ¬lightP l) := by
  have hl := hs.cnt Ie.z (by decide)
  obtain ⟨t, H', z, k', ht⟩ := l0 hs hn l 0 H rfl (by omega) (by omega) (Keep.refl _ _)
  exact ⟨t, H', call z, k', by rw [ht, Nat.zero_add]; rfl⟩
end F13
/-- The first of a kind. -/
def fstE (kd : Int) : List Ie → Option Ie
  | [] => none
  | e :: l => if e.v.kd = kd then some e else fstE kd l
def fstV (kd : Int) : List VE → Option VE
  | [] => none
  | v :: l => if v.kd = kd then some v else fstV kd l
theorem fstE_v (kd : Int) : ∀ l : List Ie, (fstE kd l).map Ie.v = fstV kd (l.map Ie.v)
  | [] => rfl
  | e :: l => by
    unfold fstE fstV
    rw [List.map_cons]
    by_cases h : e.v.kd = kd
    · simp only [h, if_true]; rfl
    · simp only [h, if_false]; exact fstE_v kd l
namespace F21
theorem l0 {G : Heap} {a : Option Addr} {n k p : Nat} {kd : Int} {l : List Ie} (hs : Ies G a n k l) (hn : n ≤ 3000000000000) (hl : ∀ e ∈ l, IeOk G e) : ∀ (rest : List Ie) (j : Nat) (H : Heap), l.drop j = rest → j + rest.length = n → Keep G.next G H → G.next ≤ p → p < H.next → H.get p = .row ie0.cells true →
    ∃ (e : Ie) (H' : Heap), L0 kd p 0 a n k (n : Int) (j : Int) H (.tuple #[e.agg, .bool (fstV kd (rest.map Ie.v)).isSome], H') ∧ Keep G.next G H' ∧ IeOk H' e ∧ e.v = (fstV kd (rest.map Ie.v)).getD ve0 := by
  intro rest
  induction rest with
  | nil =>
    intro j H hd hj hk hp hpH g
    simp only [List.length_nil] at hj
    obtain ⟨H2, s2, g2, c2, n2⟩ := rowAll (us := ie0.cells) g hpH rfl
    refine ⟨ie0, H2, L0_step ?_, hk.trans (c2.kp hk.next hp), IeOk.zero _, rfl⟩
    rw [if_neg (by omega)]
    exact ⟨H2, s2, _, _, _, _, _, _, _, rldAll g2, rfl⟩
  | cons e rest ih =>
    intro j H hd hj hk hp hpH g
    simp only [List.length_cons] at hj
    obtain ⟨b, o, rfl⟩ := hs.at (by omega)
    have hx := drop_get hd
    have ra := (hs.keep hk).recs Ie.z hx
    have he := (hl e (List.mem_of_getElem? hx)).keep hk
    obtain ⟨H2, s2, g2, k2, n2⟩ := scratchE (H := H) (e := e)
    have hk2 := hk.trans (k2.weak hk.next)
    have gp2 : H2.get p = .row ie0.cells true := by rw [k2.get _ hpH]; exact g
    by_cases h1 : e.v.kd = kd
    · obtain ⟨a3, k3, H3, c3, o3, kk3⟩ := F47.ok (he.keep k2).s (he.sm)
      have n3 := kk3.next
      have g3 : H3.get H.next = .row e.cells true := by rw [kk3.get _ (by omega)]; exact g2
      obtain ⟨H4, s4, g4, c4, n4⟩ := rowSet (i := 4) (.slice a3 e.n k3) g3 (by omega) (by simp)
      have gp4 : H4.get p = .row ie0.cells true := c4.at (by omega) (by omega) (by rw [kk3.get _ (by omega)]; exact gp2)
      obtain ⟨H5, s5, g5, c5, n5⟩ := rowAll (us := Ie.cells ⟨e.v, a3, e.n, k3⟩) gp4 (by omega) rfl
      have es : fstV kd ((e :: rest).map Ie.v) = some e.v := by rw [List.map_cons]; exact if_pos h1
      have o4 := o3.chg c4 (fun q hq h => by have := (o3.lt hq).1; have h : q = H.next := h; omega)
      have o5 := o4.chg c5 (fun q hq h => by have := (o4.lt hq).1; have h : q = p := h; omega)
      refine ⟨⟨e.v, a3, e.n, k3⟩, H5, L0_step ?_, ((hk2.trans (kk3.weak (by have := hk2.next; omega))).trans (c4.kp (by have := hk2.next; omega) (by have := hk.next; omega))).trans (c5.kp (by have := hk2.next; omega) hp), ⟨o5.sl, he.sm⟩, ?_⟩
      · rw [if_pos (by omega)]
        refine ⟨b, o, rfl, by omega, by omega, _, _, _, _, _, _, _, ra, _, rfl, H2, s2, _, rldc' g2 0, ?_⟩
        rw [if_pos h1]
        refine ⟨_, _, _, rldc' g2 4, _, _, _, _, c3, H4, s4, _, _, _, _, _, _, _, rldAll g4, H5, s5, _, _, _, _, _, _, _, rldAll g5, ?_⟩
        rw [es]
        rfl
      · rw [es]; rfl
    · obtain ⟨e', H', z, k', h', hv⟩ := ih (j + 1) H2 (drop_next hd) (by omega) hk2 hp (by omega) gp2
      have es : fstV kd ((e :: rest).map Ie.v) = fstV kd (rest.map Ie.v) := by simp only [List.map_cons, fstV, h1, if_false]
      rw [es]
      refine ⟨e', H', L0_step ?_, k', h', hv⟩
      rw [if_pos (by omega)]
      refine ⟨b, o, rfl, by omega, by omega, _, _, _, _, _, _, _, ra, _, rfl, H2, s2, _, rldc' g2 0, ?_⟩
      rw [if_neg h1, i64 (by omega) (by omega)]
      exact_mod_cast z
theorem ok {H : Heap} {a : Option Addr} {n k : Nat} {l : List Ie} (hs : Ies H a n k l) (hn : n ≤ 3000000000000) (hl : ∀ e ∈ l, IeOk H e) (kd : Int) : ∃ (e : Ie) (H' : Heap), Ce 21 [.slice a n k, .int .i64 kd] H = some (.tuple #[e.agg, .bool (fstV kd (l.map Ie.v)).isSome], H') ∧ Keep H.next H H' ∧ IeOk H' e ∧ e.v = (fstV kd (l.map Ie.v)).getD ve0 := by
  have hc := hs.cnt Ie.z (by decide)
  obtain ⟨H1, e1, n1, g1, k1⟩ := one H ie0.cells
  obtain ⟨e', H', z, k', h', hv⟩ := l0 (p := H.next) (kd := kd) hs hn hl l 0 H1 rfl (by omega) k1 (Nat.le_refl _) (by omega) g1
  exact ⟨e', H', call ⟨_, e1, z⟩, k', h', hv⟩
end F21
namespace F40
theorem ok {H : Heap} {e : Ie} (h : IeOk H e) : ∃ H', Ce 40 [e.agg] H = some (.bool (!decide (mayE e.v)), H') ∧ Keep H.next H H' := by
  obtain ⟨H1, e1, n1, g1, k1⟩ := one H e.cells
  obtain ⟨H2, c2, k2⟩ := F14.ok (h.keep k1)
  exact ⟨H2, call ⟨_, e1, _, _, _, _, _, _, _, rldAll g1, _, _, c2, rfl⟩, k1.trans (k2.weak (by omega))⟩
end F40
namespace F70
theorem l0 {G : Heap} {a : Option Addr} {n k : Nat} {l : List Ie} (hs : Ies G a n k l) (hl : ∀ e ∈ l, IeOk G e) (hn : n ≤ 3000000000000) : ∀ (rest : List Ie) (j : Nat) (H : Heap), l.drop j = rest → j + rest.length = n → Keep G.next G H → ∃ (t : Int) (H' : Heap), L0 a n k (.func (.func 40) #[] #[]) (n : Int) (j : Int) H (.int .i64 t, H') ∧ Keep G.next G H' ∧ (0 ≤ t ↔ ¬∀ e ∈ rest, mayE e.v) := by
  intro rest
  induction rest with
  | nil =>
    intro j H hd hj hk
    simp only [List.length_nil] at hj
    refine ⟨-1, H, L0_step ?_, hk, by simp⟩
    rw [if_neg (by omega)]
  | cons e rest ih =>
    intro j H hd hj hk
    simp only [List.length_cons] at hj
    obtain ⟨b, o, rfl⟩ := hs.at (by omega)
    have hx := drop_get hd
    have ra := (hs.keep hk).recs Ie.z hx
    obtain ⟨H1, c1, k1⟩ := F40.ok ((hl e (List.mem_of_getElem? hx)).keep hk)
    have hk1 := hk.trans (k1.weak hk.next)
    by_cases h1 : mayE e.v
    · obtain ⟨t, H', z, k', ht⟩ := ih (j + 1) H1 (drop_next hd) (by omega) hk1
      refine ⟨t, H', L0_step ?_, k', by rw [ht]; simp [h1]⟩
      rw [if_pos (by omega)]
      refine ⟨b, o, rfl, by omega, by omega, _, _, _, _, _, _, _, ra, 40, #[], #[], rfl, go40, _, H1, c1, ?_⟩
      rw [if_neg (by simpa using h1), i64 (by omega) (by omega)]
      exact_mod_cast z
    · refine ⟨j, H1, L0_step ?_, hk1, by simp [h1]⟩
      rw [if_pos (by omega)]
      refine ⟨b, o, rfl, by omega, by omega, _, _, _, _, _, _, _, ra, 40, #[], #[], rfl, go40, _, H1, c1, ?_⟩
      rw [if_pos (by simpa using h1)]
end F70
namespace F39
theorem ok {H : Heap} {a : Option Addr} {n k : Nat} {l : List Ie} (hs : Ies H a n k l) (hl : ∀ e ∈ l, IeOk H e) (hn : n ≤ 3000000000000) : ∃ H', Ce 39 [.slice a n k, .func (.func 40) #[] #[]] H = some (.bool (decide (¬∀ e ∈ l, mayE e.v)), H') ∧ Keep H.next H H' := by
  obtain ⟨t, H', z, k', ht⟩ := F70.l0 hs hl hn l 0 H rfl (by have := hs.cnt Ie.z (by decide); omega) (Keep.refl _ _)
  exact ⟨H', call ⟨t, H', F70.call z, by rw [show decide (t ≥ 0) = decide (¬∀ e ∈ l, mayE e.v) from decide_eq_decide.2 ht]⟩, k'⟩
end F39
/-- What an element puts behind its kind. -/
def putE (v : VE) : List Int := if v.kd = 1 then 6 :: (beB v.asn 5 ++ [v.rk]) else if v.kd = 2 then 2 :: beB v.tk 2 else (v.l.length : Int) :: v.l
def encE (v : VE) : List Int := v.kd :: putE v
def encL (vs : List VE) : List Int := (vs.length : Int) :: vs.flatMap encE
def okL (vs : List VE) : Prop := vs.length ≤ 4 ∧ ∀ v ∈ vs, mayE v
instance (vs : List VE) : Decidable (okL vs) := by unfold okL; infer_instance
def encO (vs : List VE) : List Int := if okL vs then encL vs else []
theorem mayE_kd {v : VE} (h : mayE v) : v.kd = 1 ∧ asnP v.asn ∧ byteP v.rk ∨ v.kd = 2 ∧ tickP v.tk ∨ (v.kd = 3 ∨ v.kd = 4) ∧ listP v.l := h.1
theorem isB_cons {x : Int} {xs : List Int} (h : 0 ≤ x ∧ x < 256) (h2 : IsB xs) : IsB (x :: xs) := fun y hy => by rcases List.mem_cons.1 hy with rfl | hy; exact h; exact h2 y hy
theorem isB_app {xs ys : List Int} (h : IsB xs) (h2 : IsB ys) : IsB (xs ++ ys) := fun y hy => by rcases List.mem_append.1 hy with hy | hy; exact h y hy; exact h2 y hy
theorem isB_nil : IsB [] := fun _ h => by cases h
theorem byteP_b {x : Int} (h : byteP x) : 0 ≤ x ∧ x < 256 := ⟨h.1, by have := h.2; omega⟩
theorem encE_isB {v : VE} (h : mayE v) : IsB (encE v) := by
  unfold encE putE
  rcases mayE_kd h with ⟨h1, h2, h3⟩ | ⟨h1, h2⟩ | ⟨h1, h2⟩
  · rw [if_pos h1]
    exact isB_cons (by omega) (isB_cons (by omega) (isB_app (beB_isB _ _) (isB_cons (byteP_b h3) isB_nil)))
  · rw [if_neg (by omega), if_pos h1]
    exact isB_cons (by omega) (isB_cons (by omega) (beB_isB _ _))
  · rw [if_neg (by omega), if_neg (by omega)]
    exact isB_cons (by omega) (isB_cons (by have := h2.1; omega) fun x hx => byteP_b (h2.2 x hx))
theorem encE_len {v : VE} (h : mayE v) : (encE v).length ≤ 18 := by
  unfold encE putE
  rcases mayE_kd h with ⟨h1, h2, h3⟩ | ⟨h1, h2⟩ | ⟨h1, h2⟩
  · rw [if_pos h1]; simp [beB_len]
  · rw [if_neg (by omega), if_pos h1]; simp [beB_len]
  · rw [if_neg (by omega), if_neg (by omega)]; simp; exact h2.1
theorem flatE_isB : ∀ {vs : List VE}, (∀ v ∈ vs, mayE v) → IsB (vs.flatMap encE)
  | [], _ => isB_nil
  | v :: vs, h => by rw [List.flatMap_cons]; exact isB_app (encE_isB (h v (by simp))) (flatE_isB fun w hw => h w (by simp [hw]))
theorem flatE_len : ∀ {vs : List VE}, (∀ v ∈ vs, mayE v) → (vs.flatMap encE).length ≤ 18 * vs.length
  | [], _ => by simp
  | v :: vs, h => by
    rw [List.flatMap_cons, List.length_append, List.length_cons]
    have := encE_len (h v (by simp))
    have := flatE_len (vs := vs) fun w hw => h w (by simp [hw])
    omega
theorem encL_isB {vs : List VE} (h : okL vs) : IsB (encL vs) := isB_cons (by have := h.1; omega) (flatE_isB h.2)
theorem encO_isB (vs : List VE) : IsB (encO vs) := by
  unfold encO
  split
  · rename_i h; exact encL_isB h
  · exact isB_nil
/-- A writer above a base. -/
structure Wk (G H : Heap) (p : Nat) (L : List Bool) (a : Option Addr) (n k : Nat) : Prop where
  w : WR H p L a n k
  kp : Keep G.next G H
  hp : G.next ≤ p
  ha : ∀ b, In1 a b → G.next ≤ b
section
variable {G H H1 H2 : Heap} {p q : Nat} {L : List Bool} {a a' : Option Addr} {n k : Nat}
theorem Wk.new (h : Wk G H p L a n k) (c : Keep H.next H H1) : Wk G H1 p L a n k := ⟨h.w.new c, h.kp.trans (c.weak h.kp.next), h.hp, h.ha⟩
theorem Wk.put (h : Wk G H p L a n k) (v : BitVec 64) (width : Nat) (hw : width ≤ 64) (hL : L.length + width ≤ 1099511627776) : ∃ a' n' k' H', Ce 41 [.pointer (some ⟨p, 0, none⟩), .int .u64 (nb v), .int .i64 (width : Int)] H = some (.tuple #[], H') ∧ Wk G H' p (L ++ bitsN v width) a' n' k' ∧ Ft p a a' H H' := by
  obtain ⟨a', n', k', H', c, w, f⟩ := F41.ok (v := v) h.w hw hL
  refine ⟨a', n', k', H', c, ⟨w, h.kp.trans (f.keep h.kp.next h.hp h.ha), h.hp, fun b hb => ?_⟩, f⟩
  rcases f.arr b hb with e | e
  · exact h.ha b e
  · have := h.kp.next; omega
/-- A row that came later is left. -/
theorem WR.at (w : WR H p L a n k) (hq : H.next ≤ q) (f : Ft p a a' H1 H2) (hq1 : q < H1.next) : H2.get q = H1.get q :=
  f.chg.get q hq1 fun c => by
    rcases c with e | e
    · have := w.lt; omega
    · have := (w.own.lt e).2; omega
end
theorem nb_wrap (x : Int) : IntKind.wrap .u64 x = nb (BitVec.ofInt 64 x) := wrap_nb (k := .u64) rfl x
theorem n6 : nb (BitVec.ofInt 64 6) = 6 := by decide
theorem n2 : nb (BitVec.ofInt 64 2) = 2 := by decide
namespace F99
theorem ok {G H : Heap} {p n k : Nat} {L : List Bool} {a : Option Addr} (h : Wk G H p L a n k) (hL : L.length ≤ 100000) (x y : Int) : ∃ a' n' k' H', Ce 99 [.agg #[.int .i64 x, .int .i64 y], .pointer (some ⟨p, 0, none⟩)] H = some (.tuple #[], H') ∧ Wk G H' p (L ++ tbits (6 :: (beB x 5 ++ [y]))) a' n' k' ∧ Ft p a a' H H' := by
  obtain ⟨H1, e1, m1, g1, k1⟩ := one H [.int .i64 x, .int .i64 y]
  obtain ⟨a2, n2, k2, H2, c2, w2, f2⟩ := (h.new k1).put (BitVec.ofInt 64 6) 8 (by omega) (by omega)
  have l2 : (L ++ bitsN (BitVec.ofInt 64 6) 8).length = L.length + 8 := by rw [List.length_append, seg_len]
  obtain ⟨a3, n3, k3, H3, c3, w3, f3⟩ := w2.put (BitVec.ofInt 64 x) 40 (by omega) (by omega)
  have l3 : (L ++ bitsN (BitVec.ofInt 64 6) 8 ++ bitsN (BitVec.ofInt 64 x) 40).length = L.length + 48 := by rw [List.length_append, l2, seg_len]
  obtain ⟨a4, n4, k4, H4, c4, w4, f4⟩ := w3.put (BitVec.ofInt 64 y) 8 (by omega) (by omega)
  have g2 : H2.get H.next = .row [.int .i64 x, .int .i64 y] true := by rw [h.w.at (Nat.le_refl _) f2 (by omega)]; exact g1
  have g3 : H3.get H.next = .row [.int .i64 x, .int .i64 y] true := by rw [h.w.at (Nat.le_refl _) (f2.trans f3) (by omega)]; exact g1
  refine ⟨a4, n4, k4, H4, call ⟨_, e1, H2, ?_, _, rldc' g2 0, H3, ?_, _, rldc' g3 1, H4, ?_, rfl⟩, ?_, (Ft.of k1).trans ((f2.trans f3).trans f4)⟩
  · rw [n6] at c2; exact c2
  · rw [nb_wrap]; exact c3
  · rw [nb_wrap]; exact c4
  · have e : L ++ tbits (6 :: (beB x 5 ++ [y])) = L ++ bitsN (BitVec.ofInt 64 6) 8 ++ bitsN (BitVec.ofInt 64 x) 40 ++ bitsN (BitVec.ofInt 64 y) 8 := by
      rw [show (6 : Int) :: (beB x 5 ++ [y]) = [6] ++ beB x 5 ++ [y] from rfl, tbits_append, tbits_append, tbits_beB, tbits_one, tbits_one]; simp
    rw [e]; exact w4
end F99
namespace F101
theorem ok {G H : Heap} {p n k : Nat} {L : List Bool} {a : Option Addr} (h : Wk G H p L a n k) (hL : L.length ≤ 100000) (x : Int) : ∃ a' n' k' H', Ce 101 [.agg #[.int .i64 x], .pointer (some ⟨p, 0, none⟩)] H = some (.tuple #[], H') ∧ Wk G H' p (L ++ tbits (2 :: beB x 2)) a' n' k' ∧ Ft p a a' H H' := by
  obtain ⟨H1, e1, m1, g1, k1⟩ := one H [.int .i64 x]
  obtain ⟨a2, n2', k2, H2, c2, w2, f2⟩ := (h.new k1).put (BitVec.ofInt 64 2) 8 (by omega) (by omega)
  have l2 : (L ++ bitsN (BitVec.ofInt 64 2) 8).length = L.length + 8 := by rw [List.length_append, seg_len]
  obtain ⟨a3, n3, k3, H3, c3, w3, f3⟩ := w2.put (BitVec.ofInt 64 x) 16 (by omega) (by omega)
  have g2 : H2.get H.next = .row [.int .i64 x] true := by rw [h.w.at (Nat.le_refl _) f2 (by omega)]; exact g1
  refine ⟨a3, n3, k3, H3, call ⟨_, e1, H2, ?_, _, rldc' g2 0, H3, ?_, rfl⟩, ?_, (Ft.of k1).trans (f2.trans f3)⟩
  · rw [n2] at c2; exact c2
  · rw [nb_wrap]; exact c3
  · have e : L ++ tbits (2 :: beB x 2) = L ++ bitsN (BitVec.ofInt 64 2) 8 ++ bitsN (BitVec.ofInt 64 x) 16 := by
      rw [show (2 : Int) :: beB x 2 = [2] ++ beB x 2 from rfl, tbits_append, tbits_beB, tbits_one]; simp
    rw [e]; exact w3
end F101
namespace F103
theorem l0 {G : Heap} {p : Nat} {s : Option Addr} {sn sk : Nat} {xs : List Int} (hs : Ints .i64 G s sn sk xs) (hn : sn ≤ 10000) : ∀ (rest : List Int) (j : Nat) (L : List Bool) (a : Option Addr) (n k : Nat) (H : Heap), xs.drop j = rest → j + rest.length = sn → Wk G H p L a n k → L.length + 8 * rest.length ≤ 1000000 →
    ∃ a' n' k' H', L0 (some ⟨p, 0, none⟩) s sn sk (sn : Int) (j : Int) H (.tuple #[], H') ∧ Wk G H' p (L ++ tbits rest) a' n' k' ∧ Ft p a a' H H' := by
  intro rest
  induction rest with
  | nil =>
    intro j L a n k H hd hj h hL
    simp only [List.length_nil] at hj
    refine ⟨a, n, k, H, L0_step ?_, by simpa [tbits] using h, Ft.refl _⟩
    rw [if_neg (by omega)]
  | cons x rest ih =>
    intro j L a n k H hd hj h hL
    simp only [List.length_cons] at hj hL
    have s1 := hs.keep h.kp
    obtain ⟨b, o, rfl⟩ := hs.at (by omega)
    obtain ⟨a2, n2, k2, H2, c2, w2, f2⟩ := h.put (BitVec.ofInt 64 x) 8 (by omega) (by omega)
    obtain ⟨a3, n3, k3, H3, z, w3, f3⟩ := ih (j + 1) _ a2 n2 k2 H2 (drop_next hd) (by omega) w2 (by rw [List.length_append, seg_len]; omega)
    refine ⟨a3, n3, k3, H3, L0_step ?_, ?_, f2.trans f3⟩
    · rw [if_pos (by omega)]
      refine ⟨b, o, rfl, by omega, by omega, x, Ints.get s1 (drop_get hd), H2, by rw [nb_wrap]; exact c2, ?_⟩
      rw [i64 (by omega) (by omega)]
      exact_mod_cast z
    · rw [show x :: rest = [x] ++ rest from rfl, tbits_append, tbits_one, ← List.append_assoc]; exact w3
theorem ok {G H : Heap} {p n k : Nat} {L : List Bool} {a : Option Addr} {s : Option Addr} {sn sk : Nat} {xs : List Int} (hs : Ints .i64 G s sn sk xs) (hn : sn ≤ 10000) (h : Wk G H p L a n k) (hL : L.length ≤ 100000) : ∃ a' n' k' H', Ce 103 [.agg #[.slice s sn sk], .pointer (some ⟨p, 0, none⟩)] H = some (.tuple #[], H') ∧ Wk G H' p (L ++ tbits ((xs.length : Int) :: xs)) a' n' k' ∧ Ft p a a' H H' := by
  have hl := hs.ln
  obtain ⟨H1, e1, m1, g1, k1⟩ := one H [.slice s sn sk]
  obtain ⟨a2, n2, k2, H2, c2, w2, f2⟩ := (h.new k1).put (BitVec.ofInt 64 (sn : Int)) 8 (by omega) (by omega)
  have l2 : (L ++ bitsN (BitVec.ofInt 64 (sn : Int)) 8).length = L.length + 8 := by rw [List.length_append, seg_len]
  obtain ⟨a3, n3, k3, H3, z, w3, f3⟩ := l0 hs hn xs 0 _ a2 n2 k2 H2 rfl (by omega) w2 (by omega)
  have g2 : H2.get H.next = .row [.slice s sn sk] true := by rw [h.w.at (Nat.le_refl _) f2 (by omega)]; exact g1
  refine ⟨a3, n3, k3, H3, call ⟨_, e1, _, _, _, rldc' g1 0, H2, ?_, _, _, _, rldc' g2 0, ?_⟩, ?_, (Ft.of k1).trans (f2.trans f3)⟩
  · rw [nb_wrap]; exact c2
  · exact_mod_cast z
  · rw [show (xs.length : Int) :: xs = [(xs.length : Int)] ++ xs from rfl, tbits_append, tbits_one, ← List.append_assoc, hl]; exact w3
end F103
theorem ofV_put {G : Heap} {e : Ie} (he : IeOk G e) (hm : mayE e.v) : ∃ t v g, ofV e = .iface t v ∧ xmethod Try.prog t "campanile/ie.put" = some g ∧ fnGoes Try.prog g = true ∧ ∀ (H : Heap) (p : Nat) (L : List Bool) (a : Option Addr) (n k : Nat), Wk G H p L a n k → L.length ≤ 100000 →
    ∃ a' n' k' H', Ce g [v, .pointer (some ⟨p, 0, none⟩)] H = some (.tuple #[], H') ∧ Wk G H' p (L ++ tbits (putE e.v)) a' n' k' ∧ Ft p a a' H H' := by
  unfold ofV putE
  rcases mayE_kd hm with ⟨h1, h2, h3⟩ | ⟨h1, h2⟩ | ⟨h1, h2⟩
  · rw [if_pos h1, if_pos h1]
    exact ⟨94, _, 99, rfl, p94, go99, fun H p L a n k h hL => F99.ok h hL _ _⟩
  · rw [if_neg (by omega), if_pos h1, if_neg (by omega), if_pos h1]
    exact ⟨96, _, 101, rfl, p96, go101, fun H p L a n k h hL => F101.ok h hL _⟩
  · rw [if_neg (by omega), if_neg (by omega), if_pos h1, if_neg (by omega), if_neg (by omega)]
    exact ⟨98, _, 103, rfl, p98, go103, fun H p L a n k h hL => F103.ok he.s (by have := he.s.ln; have := h2.1; omega) h hL⟩
namespace F16
theorem l1 {G : Heap} {p : Nat} {s : Option Addr} {sn sk : Nat} {l : List Ie} (hs : Ies G s sn sk l) (hl : ∀ e ∈ l, IeOk G e) (hm : ∀ e ∈ l, mayE e.v) (hn : sn ≤ 4) : ∀ (rest : List Ie) (j : Nat) (L : List Bool) (a : Option Addr) (n k : Nat) (H : Heap), l.drop j = rest → j + rest.length = sn → Wk G H p L a n k → L.length + 1000 * rest.length ≤ 10000 →
    ∃ a' k' H', L1 p 0 s sn sk (sn : Int) (j : Int) H (.tuple #[.slice a' (pack (L ++ tbits ((rest.map Ie.v).flatMap encE))).length k', .int .i64 0], H') ∧ OwnI .u8 G.next H' a' (pack (L ++ tbits ((rest.map Ie.v).flatMap encE))).length k' (pack (L ++ tbits ((rest.map Ie.v).flatMap encE))) ∧ Keep G.next G H' := by
  intro rest
  induction rest with
  | nil =>
    intro j L a n k H hd hj h hL
    simp only [List.length_nil] at hj
    obtain ⟨a3, k3, H3, c3, o3, g3⟩ := F42.ok h.w (by omega)
    have e : L ++ tbits (([] : List Ie).map Ie.v |>.flatMap encE) = L := by simp [tbits]
    rw [e]
    refine ⟨a3, k3, H3, L1_step ?_, o3.weak h.kp.next, h.kp.trans (g3.weak h.kp.next)⟩
    rw [if_neg (by omega)]
    exact ⟨_, _, _, _, c3, rfl⟩
  | cons e rest ih =>
    intro j L a n k H hd hj h hL
    simp only [List.length_cons] at hj hL
    have hx := drop_get hd
    have hmem := List.mem_of_getElem? hx
    obtain ⟨b, o, rfl⟩ := hs.at (by omega)
    have ra := (hs.keep h.kp).recs Ie.z hx
    obtain ⟨H2, s2, g2, k2, m2⟩ := scratchE (H := H) (e := e)
    obtain ⟨a3, n3, k3, H3, c3, w3, f3⟩ := (h.new k2).put (BitVec.ofInt 64 e.v.kd) 8 (by omega) (by omega)
    have g3 : H3.get H.next = .row e.cells true := by rw [h.w.at (Nat.le_refl _) f3 (by omega)]; exact g2
    obtain ⟨H4, c4, k4⟩ := F37.ok e H3
    obtain ⟨t, v, g, ho, hme, hgo, hput⟩ := ofV_put (hl e hmem) (hm e hmem)
    have l3 : (L ++ bitsN (BitVec.ofInt 64 e.v.kd) 8).length = L.length + 8 := by rw [List.length_append, seg_len]
    obtain ⟨a5, n5, k5, H5, c5, w5, f5⟩ := hput H4 p _ a3 n3 k3 (w3.new k4) (by omega)
    have pl : (putE e.v).length + 1 ≤ 18 := encE_len (hm e hmem)
    obtain ⟨a6, k6, H6, z, o6, kp6⟩ := ih (j + 1) _ a5 n5 k5 H5 (drop_next hd) (by omega) w5 (by rw [List.length_append, l3, tbits_len]; omega)
    have eq : L ++ bitsN (BitVec.ofInt 64 e.v.kd) 8 ++ tbits (putE e.v) ++ tbits ((rest.map Ie.v).flatMap encE) = L ++ tbits (((e :: rest).map Ie.v).flatMap encE) := by
      rw [List.map_cons, List.flatMap_cons, tbits_append, encE, show e.v.kd :: putE e.v = [e.v.kd] ++ putE e.v from rfl, tbits_append, tbits_one]; simp
    rw [eq] at z o6
    refine ⟨a6, k6, H6, L1_step ?_, o6, kp6⟩
    rw [if_pos (by omega)]
    refine ⟨b, o, rfl, by omega, by omega, _, _, _, _, _, _, _, ra, _, rfl, H2, s2, _, rldc' g2 0, H3, by rw [nb_wrap]; exact c3, _, _, _, _, _, _, _, rldAll g3, _, H4, c4, .inr ⟨t, v, ho, g, hme, hgo, H5, c5, ?_⟩⟩
    rw [i64 (by omega) (by omega)]
    exact_mod_cast z
theorem ok {H : Heap} {a : Option Addr} {n k : Nat} {l : List Ie} (hs : Ies H a n k l) (hl : ∀ e ∈ l, IeOk H e) (hn : n ≤ 3000000000000) : ∃ a' k' H', Ce 16 [.slice a n k] H = some (.tuple #[.slice a' (encO (l.map Ie.v)).length k', .int .i64 (if okL (l.map Ie.v) then 0 else 1)], H') ∧ OwnI .u8 H.next H' a' (encO (l.map Ie.v)).length k' (encO (l.map Ie.v)) ∧ Keep H.next H H' := by
  have hc := hs.cnt Ie.z (by decide)
  unfold encO
  by_cases h4 : (n : Int) > 4
  · have hno : ¬okL (l.map Ie.v) := fun c => by have := c.1; simp at this; omega
    rw [if_neg hno, if_neg hno]
    refine ⟨none, 0, H, call ?_, OwnI.nil, Keep.refl _ _⟩
    rw [if_pos h4]
    refine L0_step ?_
    rw [if_pos rfl]; rfl
  · obtain ⟨H1, c1, k1⟩ := F39.ok hs hl hn
    by_cases hm : ∀ e ∈ l, mayE e.v
    · have hok : okL (l.map Ie.v) := ⟨by simp; omega, fun v hv => by obtain ⟨e, he, rfl⟩ := List.mem_map.1 hv; exact hm e he⟩
      rw [if_pos hok, if_pos hok]
      have w0 := WR.mk0 H1
      have k2 : Keep H1.next H1 (H1.push (.row [.slice none 0 0, .int .i64 0] true)) := Keep.push _ (Nat.le_refl _)
      have wk : Wk H1 (H1.push (.row [.slice none 0 0, .int .i64 0] true)) H1.next [] none 0 0 := ⟨w0, k2, Nat.le_refl _, fun b hb => absurd hb In1.none⟩
      obtain ⟨a3, n3, k3, H3, c3, w3, f3⟩ := wk.put (BitVec.ofInt 64 (n : Int)) 8 (by omega) (by simp)
      obtain ⟨a4, k4, H4, z, o4, kp4⟩ := l1 (hs.keep k1) (fun e he => (hl e he).keep k1) hm (by omega) l 0 _ a3 n3 k3 H3 rfl (by omega) w3 (by simp [seg_len]; omega)
      have eq : [] ++ bitsN (BitVec.ofInt 64 (n : Int)) 8 ++ tbits ((l.map Ie.v).flatMap encE) = tbits (encL (l.map Ie.v)) := by
        unfold encL
        rw [show (((l.map Ie.v).length : Int) :: (l.map Ie.v).flatMap encE) = [((l.map Ie.v).length : Int)] ++ (l.map Ie.v).flatMap encE from rfl, tbits_append, tbits_one, List.length_map, hc]; simp
      rw [eq, pack_tbits (encL_isB hok)] at z o4
      refine ⟨a4, k4, H4, call ?_, o4.weak k1.next, k1.trans (kp4.weak k1.next)⟩
      rw [if_neg h4]
      refine ⟨_, _, c1, L0_step ?_⟩
      rw [if_neg (by simpa using hm)]
      exact ⟨_, rfl, H3, by rw [nb_wrap]; exact c3, by exact_mod_cast z⟩
    · have hno : ¬okL (l.map Ie.v) := fun c => hm fun e he => c.2 _ (List.mem_map.2 ⟨e, he, rfl⟩)
      rw [if_neg hno, if_neg hno]
      refine ⟨none, 0, H1, call ?_, OwnI.nil, k1⟩
      rw [if_neg h4]
      refine ⟨_, _, c1, L0_step ?_⟩
      rw [if_pos (by simpa using hm)]; rfl
end F16
/-- One element in a row of its own. -/
theorem Ies.one (H : Heap) (e : Ie) (own : Bool) : Ies (H.push (.row e.cells own)) (some ⟨H.next, 0, none⟩) 1 (UNK 5) [e] :=
  ⟨by simp, .inr (.inr ⟨H.next, 0, rfl, rfl, by simp, e.cells, own, by simp, by simp, by simp⟩)⟩
namespace F15
theorem ok (H : Heap) : ∃ H', Ce 15 [] H = some (.bool true, H') ∧ Keep H.next H H' := by
  let e : Ie := ⟨⟨2, 0, 0, -2, []⟩, none, 0, 0⟩
  have k1 : Keep H.next H (H.push (.row e.cells true)) := Keep.push _ (Nat.le_refl _)
  have hok : okL ([e].map Ie.v) := by decide
  obtain ⟨a', k', H', c, o, g⟩ := F16.ok (Ies.one H e true) (l := [e]) (fun x hx => by rw [List.mem_singleton.1 hx]; exact ⟨Ints.nil, by show 0 ≤ _; omega⟩) (by omega)
  rw [if_pos hok] at c
  have en : encO ([e].map Ie.v) = [1, 2, 2, 255, 254] := by unfold encO; rw [if_pos hok]; decide +kernel
  rw [en] at c o
  refine ⟨H', call ⟨_, rfl, _, _, _, _, _, c, ?_⟩, k1.trans (g.weak (by simp))⟩
  rw [if_pos rfl]
  refine ⟨_, o.sl.str, ?_⟩
  have : ((strOfNums [1, 2, 2, 255, 254]).toList == (strC [1, 2, 2, 255, 254]).toList) = true := by decide +kernel
  rw [this]
end F15
theorem mayE_1 {v : VE} (h : v.kd = 1) : mayE v ↔ asnP v.asn ∧ byteP v.rk ∧ v.tk = 0 ∧ v.l = [] := by
  unfold mayE midP plainV
  rw [if_pos h, VE.ext_iff']
  simp only
  constructor
  · rintro ⟨h1 | h1 | h1, h2⟩
    · exact ⟨h1.2.1, h1.2.2, h2.2.2.2.1, h2.2.2.2.2⟩
    · have := h1.1; omega
    · have := h1.1; omega
  · exact fun m => ⟨.inl ⟨h, m.1, m.2.1⟩, trivial, trivial, trivial, m.2.2.1, m.2.2.2⟩
theorem mayE_2 {v : VE} (h : v.kd = 2) : mayE v ↔ tickP v.tk ∧ v.asn = 0 ∧ v.rk = 0 ∧ v.l = [] := by
  unfold mayE midP plainV
  rw [if_neg (by omega), if_pos h, VE.ext_iff']
  simp only
  constructor
  · rintro ⟨h1 | h1 | h1, h2⟩
    · have := h1.1; omega
    · exact ⟨h1.2, h2.2.1, h2.2.2.1, h2.2.2.2.2⟩
    · have := h1.1; omega
  · exact fun m => ⟨.inr (.inl ⟨h, m.1⟩), trivial, m.2.1, m.2.2.1, trivial, m.2.2.2⟩
theorem mayE_3 {v : VE} (h : v.kd = 3 ∨ v.kd = 4) : mayE v ↔ listP v.l ∧ v.asn = 0 ∧ v.rk = 0 ∧ v.tk = 0 := by
  unfold mayE midP plainV
  rw [if_neg (by omega), if_neg (by omega), if_pos h, VE.ext_iff']
  simp only
  constructor
  · rintro ⟨h1 | h1 | h1, h2⟩
    · have := h1.1; omega
    · have := h1.1; omega
    · exact ⟨h1.2, h2.2.1, h2.2.2.1, h2.2.2.2.1⟩
  · exact fun m => ⟨.inr (.inr ⟨h, m.1⟩), trivial, m.2.1, m.2.2.1, m.2.2.2, trivial⟩
theorem mayE_0 {v : VE} (h1 : v.kd ≠ 1) (h2 : v.kd ≠ 2) (h3 : ¬(v.kd = 3 ∨ v.kd = 4)) : ¬mayE v := fun m => by
  rcases m.1 with h | h | h
  · exact h1 h.1
  · exact h2 h.1
  · exact h3 h.1
abbrev TIe : Ty := .strct (.pair (.int .i64) (.pair (.int .i64) (.pair (.int .i64) (.pair (.int .i64) (.pair (.slice (.int .i64) 8) .unit)))))
theorem ieOf {H : Heap} {vs : List Value} (h : Holds H TIe vs) : ∃ e : Ie, vs = e.cells ∧ IeOk H e := by
  obtain ⟨_, _, rfl, ⟨a, rfl, _⟩, _, _, rfl, ⟨b, rfl, _⟩, _, _, rfl, ⟨c, rfl, _⟩, _, _, rfl, ⟨d, rfl, _⟩, _, _, rfl, hs, rfl⟩ := h
  obtain ⟨x, n, k, xs, rfl, s, l, w⟩ := hs.ints
  exact ⟨⟨⟨a, b, c, d, xs⟩, x, n, k⟩, rfl, ⟨s, show n ≤ 17592186044416 by omega⟩⟩
end Go.X
