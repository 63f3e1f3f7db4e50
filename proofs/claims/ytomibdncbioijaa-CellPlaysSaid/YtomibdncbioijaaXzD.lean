/- Taking one element out of a slice. -/
import Derived.Test.YtomibdncbioijaaXzC
set_option linter.unusedVariables false
set_option linter.unusedSimpArgs false
namespace Go.X
open Go Go.RowKit

theorem psl_full {z b o n k : Nat} {i j : Nat} (hk : k = UNK z) (hij : i < j) (hj : j ≤ n) (hn : n < 18446744073709551616) : ∃ a' n' k', psl z (some ⟨b, o, none⟩) n k (some (i : Int)) (some (j : Int)) (some (n : Int)) = some (a', n', k') := by
  subst hk
  have bi : boundOf 0 (some (Value.int .i64 (i : Int))) = some i := by simp [boundOf]
  have bj : boundOf n (some (Value.int .i64 (j : Int))) = some j := by simp [boundOf]
  unfold psl xslice
  simp only [Option.map_some, xsliceAt, bi, bj]
  rw [if_pos ⟨Nat.le_of_lt hij, by omega, by omega, rfl, by omega⟩]
  by_cases h0 : i = 0
  · rw [if_pos h0]; exact ⟨_, _, _, rfl⟩
  · rw [if_neg h0, if_pos (by omega)]; exact ⟨_, _, _, rfl⟩
/-- slices.Delete of one element, as the code has it. -/
theorem Own.del {base : Nat} {H : Heap} {z by_ n k b o : Nat} {vs : List Value} (h : Own base H z (some ⟨b, o, none⟩) n k vs) (hz : 0 < z) (zs : List Value) (hzl : zs.length = z) {i : Nat} (hi : i < n) (hs : n * by_ ≤ 140737488355328) (hs2 : n ≤ 140737488355328) :
    ∃ a1 n1 k1 a2 n2 k2 a3 n3 k3 H1 H2, psl z (some ⟨b, o, none⟩) n k (some (i : Int)) (some ((i + 1 : Nat) : Int)) (some (n : Int)) = some (a1, n1, k1) ∧
      psl z (some ⟨b, o, none⟩) n k none (some (i : Int)) none = some (some ⟨b, o, none⟩, i, k) ∧ psl z (some ⟨b, o, none⟩) n k (some ((i + 1 : Nat) : Int)) none none = some (a2, n2, k2) ∧
      papp H z by_ (some ⟨b, o, none⟩) i k a2 n2 k2 = some ((some ⟨b, o, none⟩, n - 1, k), H1) ∧ pslR H1 z (some ⟨b, o, none⟩) (n - 1) k ((n - 1 : Nat) : Int) (n : Int) = some (a3, n3, k3) ∧ pclear H1 zs a3 n3 k3 = some H2 ∧
      Own base H2 z (some ⟨b, o, none⟩) (n - 1) k (vs.take (i * z) ++ vs.drop ((i + 1) * z)) ∧ Chg (In1 (some ⟨b, o, none⟩)) H H2 := by
  obtain ⟨hl, ⟨h0, _⟩ | ⟨b', o', cs, h1, h2, h3, h4, h5, h6, h7⟩⟩ := h
  · cases h0
  cases h1
  have hk : k = UNK z := h2
  subst hk
  have ei : (i + 1) * z = i * z + z := by rw [Nat.add_mul, Nat.one_mul]
  have en : n * z = (n - 1) * z + z := by
    have : n = (n - 1) + 1 := by omega
    conv => lhs; rw [this]
    rw [Nat.add_mul, Nat.one_mul]
  have hin : i * z ≤ (n - 1) * z := Nat.mul_le_mul_right z (by omega)
  obtain ⟨a1, n1, k1, p1⟩ := psl_full (z := z) (b := b) (o := o) (n := n) (k := UNK z) (i := i) (j := i + 1) rfl (by omega) (by omega) (by omega)
  have p2 := psl_front (z := z) (b := b) (o := o) (n := n) (k := UNK z) (r := i) (by omega) rfl
  have mid : ∃ a2 n2 k2 H1 cs1, psl z (some ⟨b, o, none⟩) n (UNK z) (some ((i + 1 : Nat) : Int)) none none = some (a2, n2, k2) ∧ papp H z by_ (some ⟨b, o, none⟩) i (UNK z) a2 n2 k2 = some ((some ⟨b, o, none⟩, n - 1, UNK z), H1) ∧
      H1.get b = .row cs1 true ∧ cs1.length = cs.length ∧ (cs1.drop o).take ((n - 1) * z) = vs.take (i * z) ++ vs.drop ((i + 1) * z) ∧ H1.next = H.next ∧ Chg (In1 (some ⟨b, o, none⟩)) H H1 := by
    have bl : boundOf 0 (some (Value.int .i64 ((i + 1 : Nat) : Int))) = some (i + 1) := by simp [boundOf]; omega
    have bn : boundOf n none = some n := rfl
    by_cases hlast : i + 1 = n
    · refine ⟨some ⟨0, 0, some 0⟩, 0, 0, H, cs, ?_, ?_, h5, rfl, ?_, rfl, Chg.refl _⟩
      · unfold psl xslice
        simp only [Option.map_some, Option.map_none, xsliceAt, bl, bn]
        rw [if_pos ⟨by omega, Nat.le_refl _⟩, if_neg (by omega), if_neg (by omega)]
        first | (simp [EMPTY]; done) | (simp [EMPTY]; omega)
      · unfold papp xappend xsrc
        simp only [if_true]
        have : i = n - 1 := by omega
        rw [this]; rfl
      · have e1 : vs.drop ((i + 1) * z) = [] := List.drop_eq_nil_of_le (by rw [hl, hlast]; exact Nat.le_refl _)
        rw [e1, List.append_nil, ← h7, List.take_take, show n - 1 = i by omega, Nat.min_eq_left (by rw [en]; omega)]
    · have hw : (vs.drop ((i + 1) * z)).length = (n - (i + 1)) * z := by rw [List.length_drop, hl, ← Nat.sub_mul]
      have en2 : (n - (i + 1)) * z + (i * z + z) = n * z := by rw [← ei, ← Nat.add_mul]; congr 1; omega
      have hc : capSub (UNK z) (i + 1) = UNK z := by unfold capSub; rw [if_pos (by unfold UNK; omega)]
      have hsrc : xsrc H z (.slice (some ⟨b, o + (i + 1) * z, none⟩) (n - (i + 1)) (UNK z)) = some (n - (i + 1), vs.drop ((i + 1) * z)) := by
        unfold xsrc
        simp only [h5]
        rw [if_pos (by omega)]
        congr 2
        rw [← h7, List.drop_take, List.drop_drop]
        congr 1
        omega
      refine ⟨some ⟨b, o + (i + 1) * z, none⟩, n - (i + 1), UNK z, H.set b (.row (setMany cs (o + i * z) (vs.drop ((i + 1) * z))) true), setMany cs (o + i * z) (vs.drop ((i + 1) * z)), ?_, ?_, Heap.get_set_same _ _ _, setMany_length _ _ _, ?_, rfl, Chg.set _ (In1.eq.2 rfl)⟩
      · unfold psl xslice
        simp only [Option.map_some, Option.map_none, xsliceAt, bl, bn]
        rw [if_pos ⟨by omega, Nat.le_refl _⟩, if_neg (by omega), if_pos (by omega), if_neg (by simp)]
        simp [hc]
      · unfold papp xappend
        rw [hsrc]
        simp only
        rw [if_neg (by omega)]
        simp only [h5]
        have e3 : i + (n - (i + 1)) = n - 1 := by omega
        rw [e3, if_pos ⟨by omega, Nat.le_trans (Nat.mul_le_mul_right by_ (by omega)) hs, by omega, hz⟩, if_neg (by unfold UNK; omega), if_pos (by first | exact ⟨rfl, trivial⟩ | exact ⟨rfl, rfl⟩ | trivial), if_pos (by omega)]
        rfl
      · have hfit : o + i * z + (vs.drop ((i + 1) * z)).length ≤ cs.length := by omega
        rw [setMany_eq _ _ _ hfit, List.append_assoc, List.drop_append_of_le_length (by simp; omega), List.drop_take, Nat.add_sub_cancel_left]
        have e4 : (cs.drop o).take (i * z) = vs.take (i * z) := by rw [← h7, List.take_take, Nat.min_eq_left (by omega)]
        rw [e4, ← List.append_assoc]
        have e5 : (vs.take (i * z) ++ vs.drop ((i + 1) * z)).length = (n - 1) * z := by rw [List.length_append, hw, List.length_take, hl, Nat.min_eq_left (by omega)]; omega
        rw [← e5, List.take_left]
  obtain ⟨a2, n2, k2, H1, cs1, q1, q2, q3, q4, q5, q6, q7⟩ := mid
  have q8 : pslR H1 z (some ⟨b, o, none⟩) (n - 1) (UNK z) ((n - 1 : Nat) : Int) (n : Int) = some (some ⟨b, o + (n - 1) * z, none⟩, 1, UNK z) := by
    have b1 : boundOf 0 (some (Value.int .i64 ((n - 1 : Nat) : Int))) = some (n - 1) := by simp [boundOf]
    have b2 : ∀ m, boundOf m (some (Value.int .i64 (n : Int))) = some n := by simp [boundOf]
    have hx : xslice z (.slice (some ⟨b, o, none⟩) (n - 1) (UNK z)) (some (.int .i64 ((n - 1 : Nat) : Int))) (some (.int .i64 (n : Int))) none = none := by
      unfold xslice
      simp only [xsliceAt, b1, b2]
      rw [if_neg (by omega)]
    unfold pslR xsliceR
    rw [hx]
    simp only [b1, b2, q3]
    rw [if_pos ⟨by omega, by rw [q4]; exact h6, by first | exact rfl | trivial, hz⟩]
    simp only [Option.bind_some, asSl_slice]
    rw [show n - (n - 1) = 1 by omega]
  have hz1 : zerosL zs 1 = zs := by simp [zerosL]
  have hfit : o + (n - 1) * z + zs.length ≤ cs1.length := by rw [hzl, q4]; omega
  have q9 : pclear H1 zs (some ⟨b, o + (n - 1) * z, none⟩) 1 (UNK z) = some (H1.set b (.row (setMany cs1 (o + (n - 1) * z) zs) true)) := by
    simp only [pclear, xclear, q3, hz1]
    rw [if_neg (by decide), if_pos (by omega)]
  refine ⟨a1, n1, k1, a2, n2, k2, _, _, _, H1, _, p1, p2, q1, q2, q8, q9, ⟨?_, .inr ⟨b, o, setMany cs1 (o + (n - 1) * z) zs, rfl, rfl, h3, by simp [q6]; omega, Heap.get_set_same _ _ _, by rw [setMany_length, q4]; omega, ?_⟩⟩, q7.trans (Chg.set _ (In1.eq.2 rfl)) fun _ _ h => h⟩
  · rw [← q5, List.length_take, List.length_drop, q4]; omega
  · rw [setMany_eq _ _ _ hfit, List.append_assoc, List.drop_append_of_le_length (by rw [List.length_take]; omega), List.drop_take, Nat.add_sub_cancel_left, List.take_append_of_le_length (by rw [List.length_take, List.length_drop]; omega), List.take_take, Nat.min_self, q5]
end Go.X
