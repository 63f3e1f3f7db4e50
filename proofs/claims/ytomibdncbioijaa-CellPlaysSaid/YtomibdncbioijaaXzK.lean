/- Words for the contracts: rows of numbers of a kind; loops' small change. -/
import Derived.Test.YtomibdncbioijaaXzNum
set_option linter.unusedVariables false
set_option linter.unusedSimpArgs false
namespace Go.X
open Go Go.RowKit

abbrev Ints (K : IntKind) (H : Heap) (a : Option Addr) (n k : Nat) (xs : List Int) : Prop := Sl H 1 a n k (xs.map (Value.int K))
abbrev OwnI (K : IntKind) (base : Nat) (H : Heap) (a : Option Addr) (n k : Nat) (xs : List Int) : Prop := Own base H 1 a n k (xs.map (Value.int K))
section
variable {K : IntKind} {H H' : Heap} {a : Option Addr} {n k b o base : Nat} {xs : List Int}
theorem Ints.ln (h : Ints K H a n k xs) : xs.length = n := by have := h.len; simpa using this
theorem OwnI.ln (h : OwnI K base H a n k xs) : xs.length = n := by have := h.len; simpa using this
theorem Ints.get (h : Ints K H (some ⟨b, o, none⟩) n k xs) {i : Nat} {x : Int} (hx : xs[i]? = some x) : ldc H b (o + Int.toNat (i : Int) * 1) = some (.int K x) := by
  rw [Int.toNat_natCast]
  exact h.ld1 (by rw [List.getElem?_map, hx]; rfl)
theorem Ints.nil : Ints K H none 0 0 [] := ⟨rfl, .inl ⟨rfl, rfl, rfl⟩⟩
theorem OwnI.nil : OwnI K base H none 0 0 [] := ⟨rfl, .inl ⟨rfl, rfl, rfl⟩⟩
theorem OwnI.new (H : Heap) (xs : List Int) : OwnI K H.next (H.push (.row (xs.map (Value.int K)) true)) (some ⟨H.next, 0, none⟩) xs.length (UNK 1) xs := Own.new (by simp)
theorem OwnI.put (h : OwnI K base H (some ⟨b, o, none⟩) n k xs) {i : Nat} (hi : i < n) (v : Int) :
    ∃ H', stc H b (o + Int.toNat (i : Int) * 1) [.int K v] = some H' ∧ OwnI K base H' (some ⟨b, o, none⟩) n k (xs.set i v) ∧ Keep base H H' ∧ H'.next = H.next := by
  obtain ⟨H', h1, h2, h3, h4⟩ := Own.put h hi (.int K v)
  rw [← List.map_set] at h2
  exact ⟨H', by rw [Int.toNat_natCast]; exact h1, h2, h3, h4⟩
theorem OwnI.app {a2 : Option Addr} {n2 k2 : Nat} {ys : List Int} (by_ : Nat) (h : OwnI K base H a n k xs) (h2 : Ints K H a2 n2 k2 ys) (hb : base ≤ H.next) (hs : (n + n2) * by_ ≤ 140737488355328) (hs2 : n + n2 ≤ 140737488355328) :
    ∃ a' k' H', papp H 1 by_ a n k a2 n2 k2 = some ((a', n + n2, k'), H') ∧ OwnI K base H' a' (n + n2) k' (xs ++ ys) ∧ Keep base H H' := by
  obtain ⟨a', k', H', c1, c2, c3⟩ := Own.append (by_ := by_) h h2 (by decide) hb hs hs2
  exact ⟨a', k', H', c1, by unfold OwnI; rw [List.map_append]; exact c2, c3⟩
theorem Ints.part (h : Ints K H a n k xs) (lo hi : Option Int) (l r : Nat) (hl : lo = none ∧ l = 0 ∨ lo = some (l : Int)) (hr : hi = none ∧ r = n ∨ hi = some (r : Int)) (hlr : l ≤ r) (hrn : r ≤ n) :
    ∃ a' k', psl 1 a n k lo hi none = some (a', r - l, k') ∧ Ints K H a' (r - l) k' ((xs.drop l).take (r - l)) := by
  obtain ⟨a', k', c, s⟩ := Sl.part h lo hi l r hl hr hlr hrn
  exact ⟨a', k', c, by unfold Ints; simpa [List.map_drop, List.map_take] using s⟩
end
theorem i64 {n : Int} (h0 : -9223372036854775808 ≤ n) (h1 : n ≤ 9223372036854775807) : IntKind.i64.wrap n = n := IntWalk.i64_in n ⟨h0, h1⟩
theorem u64 {n : Int} (h0 : 0 ≤ n) (h1 : n ≤ 18446744073709551615) : IntKind.u64.wrap n = n := IntWalk.u64_in n ⟨h0, h1⟩
theorem drop_get {α : Type} {xs rest : List α} {x : α} {j : Nat} (h : xs.drop j = x :: rest) : xs[j]? = some x := by have := congrArg (·[0]?) h; simpa using this
theorem drop_next {α : Type} {xs rest : List α} {x : α} {j : Nat} (h : xs.drop j = x :: rest) : xs.drop (j + 1) = rest := by rw [← List.drop_drop, h]; rfl
/-- The front of an own slice is an own slice. -/
theorem Own.front {base : Nat} {H : Heap} {z n k : Nat} {b o : Nat} {vs : List Value} (h : Own base H z (some ⟨b, o, none⟩) n k vs) {r : Nat} (hr : r ≤ n) : Own base H z (some ⟨b, o, none⟩) r k (vs.take (r * z)) := by
  obtain ⟨hl, ⟨h0, _⟩ | ⟨b', o', cs, h1, h2, h3, h4, h5, h6, h7⟩⟩ := h
  · cases h0
  · cases h1
    have hm : r * z ≤ n * z := Nat.mul_le_mul_right z hr
    refine ⟨by rw [List.length_take, hl, Nat.min_eq_left hm], .inr ⟨b, o, cs, rfl, h2, h3, h4, h5, by omega, ?_⟩⟩
    rw [← h7, List.take_take, Nat.min_eq_left hm]
theorem psl_front {z b o n k : Nat} {r : Nat} (hr : r ≤ n) (hk : k = UNK z) : psl z (some ⟨b, o, none⟩) n k none (some (r : Int)) none = some (some ⟨b, o, none⟩, r, k) := by
  subst hk
  simp [psl, xslice, xsliceAt, boundOf, hr]
/-- What is behind a place is made zero. -/
theorem Own.clearTail {base : Nat} {H : Heap} {n k b o : Nat} {vs : List Value} (h : Own base H 1 (some ⟨b, o, none⟩) n k vs) (z : Value) {l : Nat} (hl : l ≤ n) :
    ∃ a' k' H', psl 1 (some ⟨b, o, none⟩) n k (some (l : Int)) none none = some (a', n - l, k') ∧ pclear H [z] a' (n - l) k' = some H' ∧ Own base H' 1 (some ⟨b, o, none⟩) l k (vs.take l) ∧ Keep base H H' := by
  obtain ⟨hv, ⟨h0, _⟩ | ⟨b', o', cs, h1, h2, h3, h4, h5, h6, h7⟩⟩ := h
  · cases h0
  · cases h1
    rw [Nat.mul_one] at hv h6 h7
    have hk : k = UNK 1 := h2
    subst hk
    have keepOwn : Own base H 1 (some ⟨b, o, none⟩) l (UNK 1) (vs.take l) := by
      refine ⟨by rw [List.length_take]; omega, .inr ⟨b, o, cs, rfl, rfl, h3, h4, h5, by omega, ?_⟩⟩
      rw [Nat.mul_one, ← h7, List.take_take, Nat.min_eq_left hl]
    by_cases hz : n - l = 0
    · have e : l = n := by omega
      subst e
      by_cases h0 : l = 0
      · subst h0
        exact ⟨some ⟨b, o, none⟩, UNK 1, H, by simp [psl, xslice, xsliceAt, boundOf], by simp [pclear, xclear], keepOwn, Keep.refl _ _⟩
      · exact ⟨some ⟨0, 0, some 0⟩, 0, H, by simp [psl, xslice, xsliceAt, boundOf, h0, EMPTY], by simp [pclear, xclear], keepOwn, Keep.refl _ _⟩
    · have hlt : l < n := by omega
      have hc : capSub (UNK 1) l = UNK 1 := by unfold capSub; rw [if_pos (by unfold UNK; omega)]
      have hp : psl 1 (some ⟨b, o, none⟩) n (UNK 1) (some (l : Int)) none none = some (some ⟨b, o + l, none⟩, n - l, UNK 1) := by
        by_cases h0 : l = 0
        · subst h0; simp [psl, xslice, xsliceAt, boundOf]
        · simp [psl, xslice, xsliceAt, boundOf, h0, hlt, hl, hc]
      refine ⟨_, _, H.set b (.row (setMany cs (o + l) (zerosL [z] (n - l))) true), hp, ?_, ⟨by rw [List.length_take]; omega, .inr ⟨b, o, setMany cs (o + l) (zerosL [z] (n - l)), rfl, rfl, h3, by simpa using h4, Heap.get_set_same _ _ _, by rw [setMany_length]; omega, ?_⟩⟩, Keep.set _ h3⟩
      · simp only [pclear, xclear, hz, if_false, h5, List.length_cons, List.length_nil, Nat.zero_add, Nat.mul_one]
        rw [if_pos (by omega)]
      · have hw : o + l + (zerosL [z] (n - l)).length ≤ cs.length := by rw [zerosL1, List.length_replicate]; omega
        rw [Nat.mul_one, setMany_eq _ _ _ hw, List.append_assoc, List.drop_append_of_le_length (by rw [List.length_take]; omega), List.drop_take, Nat.add_sub_cancel_left, List.take_append_of_le_length (by rw [List.length_take, List.length_drop]; omega), List.take_take, Nat.min_self, ← h7, List.take_take, Nat.min_eq_left hl]
end Go.X
