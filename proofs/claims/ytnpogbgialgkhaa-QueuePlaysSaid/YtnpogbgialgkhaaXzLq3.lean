/- A queue by what it holds. -/
import Derived.Test.YtnpogbgialgkhaaXzLq2
import Derived.Test.YtnpogbgialgkhaaXzStr
set_option linter.unusedVariables false
set_option linter.unusedSimpArgs false
namespace Go.X
open Go Go.RowKit Go.Proofs
def Item.v (x : Item) : Int × List Int := (x.to, x.bs)
/-- A queue above a base, by what it holds. -/
def QM (base : Nat) (H : Heap) (p : Nat) (most lost : Int) (m : List (Int × List Int)) : Prop :=
  ∃ l a n k, m = l.map Item.v ∧ QR H p most lost l a n k ∧ base ≤ p ∧ ∀ b, In1 a b → base ≤ b
section
variable {base : Nat} {H H' : Heap} {p : Nat} {most lost : Int} {m : List (Int × List Int)}
theorem QM.lt (h : QM base H p most lost m) : base ≤ p ∧ p < H.next := by
  obtain ⟨l, a, n, k, _, h, h1, _⟩ := h
  exact ⟨h1, h.lt⟩
theorem QM.bs (h : QM base H p most lost m) : base ≤ H.next := by have := h.lt; omega
theorem QM.keep (h : QM base H p most lost m) (k : Keep H.next H H') : QM base H' p most lost m := by
  obtain ⟨l, a, n, k', e, h, h1, h2⟩ := h
  exact ⟨l, a, n, k', e, h.new k.chg0, h1, h2⟩
theorem QR.ni {l : List Item} {a : Option Addr} {n k : Nat} (h : QR H p most lost l a n k) {x : Item} (hx : x ∈ l) : x.n = x.bs.length := (h.items x hx).1.ln.symm
end
section
variable {base : Nat} {H : Heap} {p : Nat} {most lost : Int} {m : List (Int × List Int)} {a2 : Option Addr} {n2 k2 : Nat} {xs : List Int}
theorem F13.okM (x : Int) (H : Heap) : ∃ H' p, Cq 13 [.int .i64 x] H = some (.pointer (some ⟨p, 0, none⟩), H') ∧ QM H.next H' p (imax 1 (imin x 32)) 0 [] ∧ Keep H.next H H' := by
  obtain ⟨H1, c1, q1, k1⟩ := F13.ok x H
  exact ⟨H1, _, c1, ⟨[], none, 0, 0, rfl, q1, Nat.le_refl _, fun b h => absurd h In1.none⟩, k1⟩
theorem F14.fullM (to : Int) (hq : QM base H p most lost m) (hf : most ≤ m.length) : ∃ H', Cq 14 [.pointer (some ⟨p, 0, none⟩), .int .i64 to, .slice a2 n2 k2] H = some (.bool false, H') ∧ QM base H' p most (imin (IntKind.wrap .i64 (lost + 1)) 1000000) m ∧ Keep base H H' := by
  have hb := hq.bs
  obtain ⟨l, a, n, k, rfl, hq, h1, h2⟩ := hq
  obtain ⟨H', c, q, g⟩ := F14.full (a2 := a2) (n2 := n2) (k2 := k2) to hq (by simpa using hf)
  exact ⟨H', c, ⟨l, a, n, k, rfl, q, h1, h2⟩, g.keep hb fun b _ e => by have e : b = p := e; omega⟩
theorem F14.okM (to : Int) (hq : QM base H p most lost m) (hs : By H a2 n2 k2 xs) (h2 : n2 ≤ 140737488355328) (hm : most ≤ 32) (hr : (m.length : Int) < most) :
    ∃ H', Cq 14 [.pointer (some ⟨p, 0, none⟩), .int .i64 to, .slice a2 n2 k2] H = some (.bool true, H') ∧ QM base H' p most lost (m ++ [(to, xs)]) ∧ Keep base H H' := by
  have hb := hq.bs
  obtain ⟨l, a, n, k, rfl, hq, h1, h3⟩ := hq
  obtain ⟨a', n', k', x, H', c, q, e1, e2, g, f1, f2⟩ := F14.ok to hq hs h2 hm (by simpa using hr)
  refine ⟨H', c, ⟨l ++ [x], a', n', k', ?_, q, h1, fun b hb' => ?_⟩, g.keep hb fun b _ e => ?_⟩
  · rw [List.map_append, ← e1, ← e2]; rfl
  · rcases f2 b hb' with h | h
    · exact h3 b h
    · omega
  · rcases e with rfl | h
    · exact h1
    · exact h3 b h
theorem F15.okM (f t : Int) (hq : QM base H p most lost m) (hl : m.length ≤ 32) :
    ∃ H', Cq 15 [.pointer (some ⟨p, 0, none⟩), .int .i64 f, .int .i64 t] H = some (.int .i64 ((m.countP (fun x => x.1 = f) : Nat) : Int), H') ∧ QM base H' p most lost (m.map fun x => if x.1 = f then (t, x.2) else x) ∧ Keep base H H' := by
  have hb := hq.bs
  obtain ⟨l, a, n, k, rfl, hq, h1, h3⟩ := hq
  obtain ⟨H', c, q, g⟩ := F15.ok f t hq (by simpa using hl)
  refine ⟨H', ?_, ⟨_, a, n, k, ?_, q, h1, h3⟩, g.keep hb fun b _ e => h3 b e⟩
  · rw [c, List.countP_map]; rfl
  · rw [List.map_map, List.map_map]
    refine List.map_congr_left fun x _ => ?_
    show (if x.v.1 = f then (t, x.v.2) else x.v) = (x.mv f t).v
    by_cases h : x.to = f
    · exact (if_pos h).trans (congrArg Item.v (if_pos h : x.mv f t = { x with to := t })).symm
    · exact (if_neg h).trans (congrArg Item.v (if_neg h : x.mv f t = x)).symm
theorem F16.okM (hq : QM base H p most lost m) (hl : m.length ≤ 32) :
    ∃ a' k' H', Cq 16 [.pointer (some ⟨p, 0, none⟩)] H = some (.slice a' m.length k', H') ∧ OwnI .i64 H.next H' a' m.length k' (m.map Prod.fst) ∧ Keep H.next H H' := by
  obtain ⟨l, a, n, k, rfl, hq, h1, h3⟩ := hq
  obtain ⟨a', k', H', c, o, g⟩ := F16.ok hq (by simpa using hl)
  refine ⟨a', k', H', by rw [List.length_map]; exact c, ?_, g⟩
  rw [List.length_map, List.map_map]; exact o
theorem F17.outM (hq : QM base H p most lost m) (t : Int) (ht : t < 0 ∨ (m.length : Int) ≤ t) : Cq 17 [.pointer (some ⟨p, 0, none⟩), .int .i64 t] H = some (.tuple #[.slice none 0 0, .bool false], H) := by
  obtain ⟨l, a, n, k, rfl, hq, h1, h3⟩ := hq
  exact F17.out hq t (by simpa using ht)
theorem mapv_get {l : List Item} {i : Nat} {y : Int × List Int} (h : (l.map Item.v)[i]? = some y) : ∃ x, l[i]? = some x ∧ x.v = y := by
  rw [List.getElem?_map] at h
  cases e : l[i]? with
  | none => rw [e] at h; cases h
  | some x => rw [e] at h; exact ⟨x, rfl, by simpa using h⟩
theorem F17.okM (hq : QM base H p most lost m) {i : Nat} {t : Int} {bs : List Int} (hx : m[i]? = some (t, bs)) (hs : bs.length ≤ 140737488355328) : ∃ a' k' H', Cq 17 [.pointer (some ⟨p, 0, none⟩), .int .i64 (i : Int)] H = some (.tuple #[.slice a' bs.length k', .bool true], H') ∧ OwnI .u8 H.next H' a' bs.length k' bs ∧ Keep H.next H H' := by
  obtain ⟨l, a, n, k, rfl, hq, h1, h3⟩ := hq
  obtain ⟨x, hy, e⟩ := mapv_get hx
  cases e
  have := hq.ni (List.mem_of_getElem? hy)
  rw [← this] at hs ⊢
  exact F17.ok hq hy hs
theorem F18.outM (hq : QM base H p most lost m) (t : Int) (ht : t < 0 ∨ (m.length : Int) ≤ t) : Cq 18 [.pointer (some ⟨p, 0, none⟩), .int .i64 t] H = some (.tuple #[.slice none 0 0, .bool false], H) := by
  obtain ⟨l, a, n, k, rfl, hq, h1, h3⟩ := hq
  exact F18.out hq t (by simpa using ht)
theorem F18.okM (hq : QM base H p most lost m) {i : Nat} {t : Int} {bs : List Int} (hx : m[i]? = some (t, bs)) (hs : bs.length ≤ 140737488355328) (hl : m.length ≤ 32) :
    ∃ a' k' H', Cq 18 [.pointer (some ⟨p, 0, none⟩), .int .i64 (i : Int)] H = some (.tuple #[.slice a' bs.length k', .bool true], H') ∧ By H' a' bs.length k' bs ∧ QM base H' p most lost (m.eraseIdx i) ∧ Keep base H H' := by
  have hb := hq.bs
  obtain ⟨l, a, n, k, rfl, hq, h1, h3⟩ := hq
  obtain ⟨x, hy, e⟩ := mapv_get hx
  cases e
  have := hq.ni (List.mem_of_getElem? hy)
  rw [← this] at hs ⊢
  obtain ⟨a', k', H', a2, n2, k2, c, o, q, g, f1, f2⟩ := F18.ok hq hy hs (by simpa using hl)
  refine ⟨a', k', H', c, o, ⟨_, a2, n2, k2, ?_, q, h1, fun b hb => h3 b (f1 b hb)⟩, g.keep hb fun b _ e => ?_⟩
  · rw [List.eraseIdx_eq_take_drop_succ, List.eraseIdx_eq_take_drop_succ, List.map_append, List.map_take, List.map_drop]
  · rcases e with rfl | h
    · exact h1
    · exact h3 b h
theorem F19.okM (hq : QM base H p most lost m) : Cq 19 [.pointer (some ⟨p, 0, none⟩)] H = some (.int .i64 ((m.length : Nat) : Int), H) := by
  obtain ⟨l, a, n, k, rfl, hq, h1, h3⟩ := hq
  rw [List.length_map]; exact F19.ok hq
theorem F20.okM (hq : QM base H p most lost m) : Cq 20 [.pointer (some ⟨p, 0, none⟩)] H = some (.int .i64 lost, H) := by
  obtain ⟨l, a, n, k, rfl, hq, h1, h3⟩ := hq
  exact F20.ok hq
end
end Go.X
