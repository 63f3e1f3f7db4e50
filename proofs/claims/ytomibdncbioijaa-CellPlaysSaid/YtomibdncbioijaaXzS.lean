/- Rows of structs. -/
import Derived.Test.YtomibdncbioijaaXzRd
import Derived.Test.YtomibdncbioijaaXzStr
set_option linter.unusedVariables false
set_option linter.unusedSimpArgs false
namespace Go.X
open Go Go.RowKit
section
variable {α : Type} {f : α → List Value} {z : Nat} {H : Heap} {l : List α} {i n k b o : Nat} {x : α} {a : Option Addr}
theorem flat_len (hz : ∀ x, (f x).length = z) (l : List α) : (l.flatMap f).length = l.length * z := by
  induction l with
  | nil => simp
  | cons y l ih => rw [List.flatMap_cons, List.length_append, hz, ih, List.length_cons, Nat.add_mul]; omega
theorem flat_get (hz : ∀ x, (f x).length = z) : ∀ {l : List α} {i : Nat} {x : α}, l[i]? = some x → ∀ j, j < z → (l.flatMap f)[i * z + j]? = (f x)[j]?
  | y :: l, 0, x, h, j, hj => by
    have : y = x := by simpa using h
    subst this
    rw [List.flatMap_cons, Nat.zero_mul, Nat.zero_add, List.getElem?_append_left (by rw [hz]; exact hj)]
  | y :: l, i + 1, x, h, j, hj => by
    have h' : l[i]? = some x := by simpa using h
    rw [List.flatMap_cons, List.getElem?_append_right (by rw [hz, Nat.add_mul]; omega), hz, show (i + 1) * z + j - z = i * z + j by rw [Nat.add_mul]; omega, flat_get hz h' j hj]
theorem Seg.ldAll {vs : List Value} (h : Seg H b o vs) : ∀ (ws : List Value) (c : Nat), (∀ j v, ws[j]? = some v → vs[c + j]? = some v) → ldAll H b (o + c) ws
  | [], _, _ => trivial
  | w :: ws, c, hw => ⟨h.ldc (hw 0 w rfl), by rw [Nat.add_assoc]; exact Seg.ldAll h ws (c + 1) fun j v hv => by rw [Nat.add_assoc, Nat.add_comm 1]; exact hw (j + 1) v (by simpa using hv)⟩
theorem Sl.recs (hz : ∀ x, (f x).length = z) (h : Sl H z (some ⟨b, o, none⟩) n k (l.flatMap f)) (hx : l[i]? = some x) : ldAll H b (o + Int.toNat (i : Int) * z) (f x) := by
  rw [Int.toNat_natCast]
  refine h.seg.ldAll _ _ fun j v hv => ?_
  rw [flat_get hz hx j (by rw [← hz x]; exact (List.getElem?_eq_some_iff.1 hv).1)]
  exact hv
theorem Sl.cnt (hz : ∀ x, (f x).length = z) (h0 : 0 < z) (h : Sl H z a n k (l.flatMap f)) : l.length = n := by
  have := h.len
  rw [flat_len hz] at this
  exact Nat.eq_of_mul_eq_mul_right h0 this
end
/-- A slice of anything, opened. -/
theorem Holds.recs {α : Type} {f : α → List Value} {Q : α → Prop} {H : Heap} {T : Ty} {by_ : Nat} {vs : List Value} (hd : ∀ vs, Holds H T vs → ∃ x, vs = f x ∧ Q x) (h : Holds H (.slice T by_) vs) :
    ∃ (a : Option Addr) (n k : Nat) (l : List α), vs = [.slice a n k] ∧ Sl H T.z a n k (l.flatMap f) ∧ l.length = n ∧ (∀ x ∈ l, Q x) ∧ n * by_ ≤ 140737488351232 := by
  obtain ⟨a, n, k, vss, rfl, s, hl, i, b⟩ := h
  have key : ∀ vss : List (List Value), (∀ x ∈ vss, x.length = T.z ∧ Holds H T x) → ∃ l : List α, vss.flatten = l.flatMap f ∧ l.length = vss.length ∧ ∀ x ∈ l, Q x := by
    intro vss
    induction vss with
    | nil => exact fun _ => ⟨[], rfl, rfl, by simp⟩
    | cons v vss ih =>
      intro h
      obtain ⟨l, e, e2, w⟩ := ih fun x hx => h x (by simp [hx])
      obtain ⟨x, rfl, hx⟩ := hd v (h v (by simp)).2
      exact ⟨x :: l, by rw [List.flatten_cons, e]; rfl, by simp [e2], fun y hy => by rcases List.mem_cons.1 hy with rfl | hy; exact hx; exact w y hy⟩
  obtain ⟨l, e, e2, w⟩ := key vss i
  rw [e] at s
  exact ⟨a, n, k, l, rfl, s, by omega, w, b⟩
end Go.X
