/- The laws of the queue: none at all; any calls. -/
import Derived.Test.YtnpogbgialgkhaaXzLq5
set_option linter.unusedVariables false
set_option linter.unusedSimpArgs false
namespace Go.X
open Go Go.RowKit Go.Proofs
section
variable {H : Heap}
theorem F14.nil {a2 : Option Addr} {n2 k2 : Nat} (t : Int) : Cq 14 [.pointer none, .int .i64 t, .slice a2 n2 k2] H = some (.bool false, H) := F14.call ((if_pos (show (none : Option Addr).isNone = true from rfl)).mpr rfl)
theorem F15.nil (f t : Int) : Cq 15 [.pointer none, .int .i64 f, .int .i64 t] H = some (.int .i64 0, H) := F15.call ((if_pos (show (none : Option Addr).isNone = true from rfl)).mpr rfl)
theorem F16.nil : Cq 16 [.pointer none] H = some (.slice none 0 0, H) := F16.call ((if_pos (show (none : Option Addr).isNone = true from rfl)).mpr rfl)
theorem F17.nil (t : Int) : Cq 17 [.pointer none, .int .i64 t] H = some (.tuple #[.slice none 0 0, .bool false], H) := F17.call ((if_pos (show (none : Option Addr).isNone = true from rfl)).mpr (F17.L0_step (by rw [if_pos rfl])))
theorem F18.nil (t : Int) : Cq 18 [.pointer none, .int .i64 t] H = some (.tuple #[.slice none 0 0, .bool false], H) := F18.call ⟨_, _, _, _, _, F17.nil t, by rw [if_neg (by simp)]⟩
theorem F19.nil : Cq 19 [.pointer none] H = some (.int .i64 0, H) := F19.call ((if_pos (show (none : Option Addr).isNone = true from rfl)).mpr rfl)
theorem F20.nil : Cq 20 [.pointer none] H = some (.int .i64 0, H) := F20.call ((if_pos (show (none : Option Addr).isNone = true from rfl)).mpr rfl)
end
theorem ldcs {H : Heap} {p : Nat} {vs : List Value} {own : Bool} (h : H.get p = .row vs own) (i : Nat) : ldc H p i = vs[i]? := by
  unfold ldc; rw [h]
namespace F11
theorem ok {H : Heap} (a b c : Int) (x : Option Addr) (n k : Nat) : ∃ H', Cq 11 [.agg #[.int .i64 a, .int .i64 b, .int .i64 c, .slice x n k]] H = some (.bool true, H') := by
  generalize e : H.push (.row [.int .i64 a, .int .i64 b, .int .i64 c, .slice x n k] true) = H1
  have g : H1.get H.next = .row [.int .i64 a, .int .i64 b, .int .i64 c, .slice x n k] true := by rw [← e]; simp
  obtain ⟨H', c1, _⟩ := F12.ok H1
  refine ⟨H', call ⟨H1, e.symm, _, ldcs g 1, _, _, _, _, _, F17.nil _, _, ldcs g 1, _, _, _, _, _, F18.nil _, _, ldcs g 1, _, _, _, ldcs g 3, _, _, F14.nil _, ?_⟩⟩
  rw [if_neg (by simp)]
  refine ⟨_, _, _, _, F16.nil, ?_⟩
  rw [if_pos (by simp), if_neg (by simp), if_neg (by simp)]
  refine ⟨_, ldcs g 1, _, ldcs g 2, _, _, F15.nil _ _, ?_⟩
  rw [if_pos rfl]
  refine ⟨_, _, F19.nil, ?_⟩
  rw [if_pos rfl]
  refine ⟨_, _, F20.nil, ?_⟩
  rw [if_pos rfl]
  exact ⟨_, _, c1, rfl⟩
abbrev TCall : Ty := .strct (.pair (.int .i64) (.pair (.int .i64) (.pair (.int .i64) (.pair (.slice (.int .u8) 1) (.unit)))))
theorem callOf {H : Heap} {vs : List Value} (h : Holds H TCall vs) : ∃ a b c x n k xs, vs = [.int .i64 a, .int .i64 b, .int .i64 c, .slice x n k] ∧ By H x n k xs ∧ n ≤ 140737488351232 ∧ IsB xs := by
  obtain ⟨_, _, rfl, ⟨a, rfl, _⟩, _, _, rfl, ⟨b, rfl, _⟩, _, _, rfl, ⟨c, rfl, _⟩, _, _, rfl, hs, rfl⟩ := h
  obtain ⟨x, n, k, xs, rfl, s, l, w⟩ := hs.ints
  exact ⟨a, b, c, x, n, k, xs, rfl, s, by omega, IsB.of w⟩
theorem law {H : Heap} {ds : List (List Value)} (h : HoldsAll H [TCall] ds) : ∃ H', Cq 11 (vals [TCall] ds) H = some (.bool true, H') := by
  obtain ⟨d0, _, rfl, h0, h⟩ := h.cons
  obtain rfl := h.nil
  obtain ⟨a, b, c, x, n, k, xs, rfl, s, _⟩ := callOf h0
  exact ok a b c x n k
end F11
end Go.X
