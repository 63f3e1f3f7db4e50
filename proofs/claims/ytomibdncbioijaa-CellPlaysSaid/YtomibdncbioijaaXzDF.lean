/- The end of a slice of structs is made zero; writing one struct. -/
import Derived.Test.YtomibdncbioijaaXzC
import Derived.Test.YtomibdncbioijaaXzS
set_option linter.unusedVariables false
set_option linter.unusedSimpArgs false
namespace Go.X
open Go Go.RowKit
theorem zerosL_len (zs : List Value) (n : Nat) : (zerosL zs n).length = n * zs.length := by
  unfold zerosL
  induction n with
  | zero => simp
  | succ n ih => rw [List.replicate_succ, List.flatten_cons, List.length_append, ih, Nat.add_mul]; omega
/-- What is behind a place is made zero. -/
theorem Own.clearTailZ {base : Nat} {H : Heap} {z n k b o : Nat} {vs : List Value} (h : Own base H z (some ⟨b, o, none⟩) n k vs) (hz0 : 0 < z) (zs : List Value) (hzl : zs.length = z) {l : Nat} (hl : l ≤ n) :
    ∃ a' k' H', psl z (some ⟨b, o, none⟩) n k (some (l : Int)) none none = some (a', n - l, k') ∧ pclear H zs a' (n - l) k' = some H' ∧ Own base H' z (some ⟨b, o, none⟩) l k (vs.take (l * z)) ∧ Chg (In1 (some ⟨b, o, none⟩)) H H' := by
  obtain ⟨hv, ⟨h0, _⟩ | ⟨b', o', cs, h1, h2, h3, h4, h5, h6, h7⟩⟩ := h
  · cases h0
  · cases h1
    have hk : k = UNK z := h2
    subst hk
    have hlz : l * z ≤ n * z := Nat.mul_le_mul_right _ hl
    have keepOwn : Own base H z (some ⟨b, o, none⟩) l (UNK z) (vs.take (l * z)) := by
      refine ⟨by rw [List.length_take]; omega, .inr ⟨b, o, cs, rfl, rfl, h3, h4, h5, by omega, ?_⟩⟩
      rw [← h7, List.take_take, Nat.min_eq_left hlz]
    by_cases hz : n - l = 0
    · have e : l = n := by omega
      subst e
      by_cases h0 : l = 0
      · subst h0
        exact ⟨some ⟨b, o, none⟩, UNK z, H, by simp [psl, xslice, xsliceAt, boundOf], by simp [pclear, xclear], keepOwn, Chg.refl _⟩
      · exact ⟨some ⟨0, 0, some 0⟩, 0, H, by simp [psl, xslice, xsliceAt, boundOf, h0, EMPTY], by simp [pclear, xclear], keepOwn, Chg.refl _⟩
    · have hlt : l < n := by omega
      have hc : capSub (UNK z) l = UNK z := by unfold capSub; rw [if_pos (by unfold UNK; omega)]
      have hp : psl z (some ⟨b, o, none⟩) n (UNK z) (some (l : Int)) none none = some (some ⟨b, o + l * z, none⟩, n - l, UNK z) := by
        by_cases h0 : l = 0
        · subst h0; simp [psl, xslice, xsliceAt, boundOf]
        · simp [psl, xslice, xsliceAt, boundOf, h0, hlt, hl, hc]
      have en : (n - l) * z + l * z = n * z := by rw [← Nat.add_mul]; congr 1; omega
      have hw0 := zerosL_len zs (n - l)
      rw [hzl] at hw0
      refine ⟨_, _, H.set b (.row (setMany cs (o + l * z) (zerosL zs (n - l))) true), hp, ?_, ⟨by rw [List.length_take]; omega, .inr ⟨b, o, setMany cs (o + l * z) (zerosL zs (n - l)), rfl, rfl, h3, by simpa using h4, Heap.get_set_same _ _ _, by rw [setMany_length]; omega, ?_⟩⟩, Chg.set _ (In1.eq.2 rfl)⟩
      · simp only [pclear, xclear, hz, if_false, h5, hzl]
        rw [if_pos (by omega)]
      · have hw : o + l * z + (zerosL zs (n - l)).length ≤ cs.length := by omega
        rw [setMany_eq _ _ _ hw, List.append_assoc, List.drop_append_of_le_length (by rw [List.length_take]; omega), List.drop_take, Nat.add_sub_cancel_left, List.take_append_of_le_length (by rw [List.length_take, List.length_drop]; omega), List.take_take, Nat.min_self, ← h7, List.take_take, Nat.min_eq_left hlz]
/-- Writing a whole element. -/
theorem Own.putAt {base : Nat} {H : Heap} {z n k b o : Nat} {vs : List Value} (h : Own base H z (some ⟨b, o, none⟩) n k vs) {i : Nat} (hi : i < n) (us : List Value) (hu : us.length = z) :
    ∃ H', stc H b (o + Int.toNat (i : Int) * z) us = some H' ∧ Own base H' z (some ⟨b, o, none⟩) n k (vs.take (i * z) ++ us ++ vs.drop ((i + 1) * z)) ∧ Chg (In1 (some ⟨b, o, none⟩)) H H' ∧ H'.next = H.next := by
  obtain ⟨hl, ⟨h0, _⟩ | ⟨b', o', cs, h1, h2, h3, h4, h5, h6, h7⟩⟩ := h
  · cases h0
  · cases h1
    have ei : (i + 1) * z = i * z + z := by rw [Nat.add_mul, Nat.one_mul]
    have hiz : (i + 1) * z ≤ n * z := Nat.mul_le_mul_right _ hi
    unfold stc
    rw [h5, Int.toNat_natCast]
    simp only
    rw [if_pos (by omega)]
    have hw : o + i * z + us.length ≤ cs.length := by omega
    refine ⟨_, rfl, ⟨by rw [List.length_append, List.length_append, List.length_take, List.length_drop]; omega, .inr ⟨b, o, setMany cs (o + i * z) us, rfl, h2, h3, by simpa using h4, Heap.get_set_same _ _ _, by rw [setMany_length]; omega, ?_⟩⟩, Chg.set _ (In1.eq.2 rfl), rfl⟩
    rw [setMany_eq _ _ _ hw, List.append_assoc, List.drop_append_of_le_length (by rw [List.length_take]; omega), List.drop_take, Nat.add_sub_cancel_left]
    have e4 : (cs.drop o).take (i * z) = vs.take (i * z) := by rw [← h7, List.take_take, Nat.min_eq_left (by omega)]
    have e5 : vs.drop ((i + 1) * z) = (cs.drop (o + i * z + us.length)).take (n * z - (i + 1) * z) := by
      rw [← h7, List.drop_take, List.drop_drop]; congr 2; omega
    rw [e4, e5]
    have l4 : (vs.take (i * z)).length = i * z := by rw [List.length_take, hl]; omega
    rw [List.append_assoc, List.take_append, l4, List.take_of_length_le (by omega), List.append_cancel_left_eq, List.take_append, hu, List.take_of_length_le (by omega), List.append_cancel_left_eq]
    congr 1
    omega
/-- .. of a row of structs. -/
theorem Own.putRec {α : Type} {f : α → List Value} {base : Nat} {H : Heap} {z n k b o : Nat} {l : List α} (hz : ∀ x, (f x).length = z) (h : Own base H z (some ⟨b, o, none⟩) n k (l.flatMap f)) {i : Nat} (hi : i < l.length) (hn : l.length = n) (x : α) :
    ∃ H', stc H b (o + Int.toNat (i : Int) * z) (f x) = some H' ∧ Own base H' z (some ⟨b, o, none⟩) n k ((l.set i x).flatMap f) ∧ Chg (In1 (some ⟨b, o, none⟩)) H H' ∧ H'.next = H.next := by
  obtain ⟨H', c, o2, g, e⟩ := Own.putAt h (i := i) (by omega) (f x) (hz x)
  refine ⟨H', c, ?_, g, e⟩
  have e1 : l = l.take i ++ l[i] :: l.drop (i + 1) := by rw [← List.drop_eq_getElem_cons hi, List.take_append_drop]
  have e2 : l.set i x = l.take i ++ x :: l.drop (i + 1) := by rw [List.set_eq_take_append_cons_drop, if_pos hi]
  have h1 : (l.flatMap f).take (i * z) = (l.take i).flatMap f := by
    conv => lhs; rw [e1, List.flatMap_append]
    rw [List.take_left' (by rw [flat_len hz, List.length_take, Nat.min_eq_left (by omega)])]
  have h2 : (l.flatMap f).drop ((i + 1) * z) = (l.drop (i + 1)).flatMap f := by
    have e3 : l = l.take (i + 1) ++ l.drop (i + 1) := (List.take_append_drop _ _).symm
    conv => lhs; rw [e3, List.flatMap_append]
    rw [List.drop_left' (by rw [flat_len hz, List.length_take, Nat.min_eq_left (by omega)])]
  rw [h1, h2] at o2
  rw [e2, List.flatMap_append, List.flatMap_cons, ← List.append_assoc]
  exact o2
end Go.X
