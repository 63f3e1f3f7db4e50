/- The law CellNil. -/
import Derived.Test.YtomibdncbioijaaXzDc
import Derived.Test.YtomibdncbioijaaXzTd11
import Derived.Test.YtomibdncbioijaaXzTdU
set_option linter.unusedVariables false
set_option linter.unusedSimpArgs false
set_option maxRecDepth 20000
namespace Go.X
open Go Go.RowKit Go.Proofs
namespace F26
theorem nil (c : C5) (H : Heap) : ∃ H', Cd 26 [.pointer none, c.agg] H = some (.int .i64 1, H') ∧ Keep H.next H H' := by
  obtain ⟨H1, e1, n1, g1, k1⟩ := one H c.cells
  refine ⟨H1, call ⟨_, e1, ?_⟩, k1⟩
  rw [if_pos (by simp)]
end F26
theorem ldAll_part {H : Heap} {p : Nat} {us vs : List Value} {own : Bool} (h : H.get p = .row (us ++ vs) own) : ldAll H p us.length vs := by
  have key : ∀ (xs : List Value) (o : Nat), (us ++ vs).drop o = xs → ldAll H p o xs := by
    intro xs
    induction xs with
    | nil => intro o _; trivial
    | cons x xs ih =>
      intro o ho
      refine ⟨?_, ih (o + 1) (drop_next ho)⟩
      rw [rldc' h, drop_get ho]
  exact key vs us.length (by simp)
namespace F11
theorem ok (d h n asn : Int) (c : C5) (H : Heap) : ∃ H', Cd 11 [.agg #[.int .i64 d, .int .i64 h, .int .i64 n, .int .i64 c.f, .int .i64 c.s, .int .i64 c.c, .int .i64 c.o, .int .i64 c.p], .int .i64 asn] H = some (.bool true, H') := by
  obtain ⟨H1, e1, n1, g1, k1⟩ := one H ([.int .i64 d, .int .i64 h, .int .i64 n] ++ c.cells)
  obtain ⟨H2, c2, k2⟩ := F20.nil h n H1
  obtain ⟨H3, c3, k3⟩ := F18.nil c H2
  obtain ⟨H4, c4, k4⟩ := F26.nil c H3
  obtain ⟨H8, c8, _⟩ := F19.ok H4
  have m2 := k2.next
  have m3 := k3.next
  have g2 : H2.get H.next = .row ([.int .i64 d, .int .i64 h, .int .i64 n] ++ c.cells) true := by rw [k2.get _ (by omega)]; exact g1
  have g3 : H3.get H.next = .row ([.int .i64 d, .int .i64 h, .int .i64 n] ++ c.cells) true := by rw [k3.get _ (by omega)]; exact g2
  have g4 : H4.get H.next = .row ([.int .i64 d, .int .i64 h, .int .i64 n] ++ c.cells) true := by rw [k4.get _ (by omega)]; exact g3
  refine ⟨H8, call ⟨_, e1, _, rldc' g1 1, _, rldc' g1 2, _, _, c2, ?_⟩⟩
  rw [if_pos rfl]
  refine ⟨_, _, _, _, _, ldAll_part g2, _, _, c3, ?_⟩
  rw [if_pos rfl]
  refine ⟨_, _, _, _, _, ldAll_part g3, _, _, c4, ?_⟩
  rw [if_pos rfl]
  refine ⟨_, _, _, _, F21.nil _ _, ?_⟩
  rw [if_pos (by simp)]
  refine ⟨_, _, _, _, F25.nil _, ?_⟩
  rw [if_pos (by simp)]
  refine ⟨_, rldc' g4 1, _, _, F24.nil _ _, ?_⟩
  rw [if_pos rfl]
  exact ⟨_, _, c8, rfl⟩
abbrev TCa : Ty := .strct (.pair (.int .i64) (.pair (.int .i64) (.pair (.int .i64) (.pair (.strct (.pair (.int .i64) (.pair (.int .i64) (.pair (.int .i64) (.pair (.int .i64) (.pair (.int .i64) (.unit))))))) (.unit)))))
theorem law {H : Heap} {ds : List (List Value)} (h : HoldsAll H [TCa, .int .i64] ds) : ∃ H', Cd 11 (vals [TCa, .int .i64] ds) H = some (.bool true, H') := by
  obtain ⟨d0, _, rfl, h0, h⟩ := h.cons
  obtain ⟨d1, _, rfl, h1, h⟩ := h.cons
  obtain rfl := h.nil
  obtain ⟨_, _, rfl, ⟨x, rfl, _⟩, _, _, rfl, ⟨y, rfl, _⟩, _, _, rfl, ⟨z, rfl, _⟩, _, _, rfl, ⟨_, _, rfl, ⟨a, rfl, _⟩, _, _, rfl, ⟨b, rfl, _⟩, _, _, rfl, ⟨c, rfl, _⟩, _, _, rfl, ⟨d, rfl, _⟩, _, _, rfl, ⟨e, rfl, _⟩, rfl⟩, rfl⟩ := h0
  obtain ⟨asn, rfl, _⟩ := h1.i
  exact ok x y z asn ⟨a, b, c, d, e⟩ H
end F11
end Go.X
