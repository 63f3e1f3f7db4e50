/- The law of shorter beginnings. -/
import Derived.Test.YtbfjajoekcbodaaXzFa
import Derived.Test.YtbfjajoekcbodaaXzTeM5
set_option linter.unusedVariables false
set_option linter.unusedSimpArgs false
set_option maxRecDepth 20000
namespace Go.X
open Go Go.RowKit Go.Proofs
/-- A shorter beginning of a frame. -/
theorem decF_cut {v : VF} (h : mayF v) {c : Nat} (hc : c < (encF v).length) : ((decF ((encF v).take c)).2 = 2 ↔ c < 9) ∧ (decF ((encF v).take c)).2 ≠ 0 := by
  have hl := encF_len v
  have hbl := bodyF_len v
  have lc : ((encF v).take c).length = c := by rw [List.length_take]; omega
  unfold decF
  rw [lc]
  by_cases c9 : c < 9
  · rw [if_pos c9]; exact ⟨⟨fun _ => c9, fun _ => rfl⟩, by decide⟩
  rw [if_neg c9]
  by_cases hg : goodB ((encF v).take c) = false
  · rw [if_pos hg]; exact ⟨⟨fun c => absurd c (by decide), fun c => absurd c c9⟩, by decide⟩
  rw [if_neg hg]
  have ey : ((encF v).take c).take (c - 2) = (bodyF v).take (c - 2) := by
    rw [List.take_take, show min (c - 2) c = c - 2 by omega]
    unfold encF crcA
    rw [List.take_append_of_le_length (by omega)]
  rw [ey]
  have ly : ((bodyF v).take (c - 2)).length = c - 2 := by rw [List.length_take]; omega
  have hget : ∀ i, i < c - 2 → ((bodyF v).take (c - 2)).getD i 0 = (bodyF v).getD i 0 := fun i hi => by
    rw [List.getD, List.getD, List.getElem?_take, if_pos hi]
  have e := bodyF_eq v
  have g5 : (bodyF v).getD 5 0 = ((encL v.es).length : Int) := by rw [e]; rfl
  have d6 : (bodyF v).drop 6 = encL v.es ++ ((v.dt.length : Int) :: v.dt) := by rw [e]; rfl
  have gn : (bodyF v).getD (6 + (encL v.es).length) 0 = (v.dt.length : Int) := gd (drop_app d6)
  have key : ¬(((bodyF v).take (c - 2)).getD 0 0 = 197 ∧ 7 + (((bodyF v).take (c - 2)).getD 5 0).toNat + (((bodyF v).take (c - 2)).getD (6 + (((bodyF v).take (c - 2)).getD 5 0).toNat) 0).toNat = ((bodyF v).take (c - 2)).length) := by
    rintro ⟨_, k⟩
    rw [hget 5 (by omega), g5, Int.toNat_natCast, ly] at k
    by_cases q : 6 + (encL v.es).length < c - 2
    · rw [hget _ q, gn, Int.toNat_natCast] at k
      omega
    · rw [List.getD, List.getElem?_eq_none (by omega)] at k
      simp at k
      omega
  unfold decY
  rw [if_pos key]
  exact ⟨⟨fun c => absurd c (by decide), fun c => absurd c c9⟩, by decide⟩
namespace F11
theorem ok {H : Heap} {f : Fm} (h : FmOk H f) (hb : IsB f.dt) (x : Int) : ∃ H', Ce 11 [f.agg, .int .i64 x] H = some (.bool true, H') := by
  obtain ⟨H1, e1, n1, g1, k1⟩ := one H f.cells
  obtain ⟨H2, c2, k2⟩ := F26.ok (h.keep k1)
  have n2 := k2.next
  have g2 : H2.get H.next = .row f.cells true := by rw [k2.get _ (by omega)]; exact g1
  by_cases hl : F26.okP f
  · have h2 := (h.keep k1).keep k2
    obtain ⟨a3, k3', H3, c3, o3, k3⟩ := F33.ok h2 hb
    have n3 := k3.next
    by_cases hm : mayF f.v
    · rw [if_pos hm, encFO_may hm] at c3
      rw [encFO_may hm] at o3
      have hlen : (encF f.v).length = (encL (f.l.map Ie.v)).length + f.dt.length + 9 := encF_len f.v
      have hpos := encL_pos (f.l.map Ie.v)
      have hle := h.len hm
      have hu : IntKind.wrap .u64 ((encF f.v).length : Int) = ((encF f.v).length : Int) := u64 (by omega) (by omega)
      obtain ⟨m, em, hmm⟩ := modN x ((encF f.v).length : Int) (by omega) (by omega)
      obtain ⟨a4, k4', p4, s4⟩ := Ints.part (show By H3 a3 (encF f.v).length k3' (encF f.v) from o3.sl) none (some (m : Int)) 0 m (.inl ⟨rfl, rfl⟩) (.inr rfl) (by omega) (by omega)
      simp only [List.drop_zero, Nat.sub_zero] at p4 s4
      have hbb := encF_isB hm hb
      have lt : ((encF f.v).take m).length = m := by rw [List.length_take]; omega
      obtain ⟨g, H5, c5, v5, ok5, k5⟩ := F30.ok s4 (fun y hy => hbb y (List.mem_of_mem_take hy)) (by omega)
      obtain ⟨q1, q2⟩ := decF_cut hm (c := m) (by omega)
      obtain ⟨H7, s7, g7, k7, n7⟩ := fill H5 fm0.cells g.cells rfl
      obtain ⟨H8, c8, k8⟩ := F27.ok H7
      refine ⟨H8, call ⟨_, e1, _, _, _, _, _, _, _, _, _, _, rldAll g1, _, _, c2, ?_⟩⟩
      rw [if_pos (by simpa using hl)]
      refine ⟨_, _, _, _, _, _, _, _, _, _, rldAll g2, _, _, _, _, _, c3, ?_⟩
      rw [if_pos rfl, decide_eq_false (by omega)]
      refine L0_step ?_
      rw [if_neg (by simp), hu, em]
      refine ⟨by omega, _, _, _, p4, _, _, _, _, _, _, _, _, _, _, _, _, c5, _, rfl, H7, s7, ?_⟩
      have e2 : (((decF ((encF f.v).take m)).2 == 2) == decide ((m : Int) < 9)) = true := by
        by_cases w : m < 9
        · rw [q1.2 w, decide_eq_true (by omega)]; rfl
        · have : (decF ((encF f.v).take m)).2 ≠ 2 := fun c => w (q1.1 c)
          rw [decide_eq_false (by omega)]
          simpa using this
      rw [if_pos e2, if_neg q2]
      exact ⟨_, _, c8, rfl⟩
    · rw [if_neg hm, encFO_no hm] at c3
      obtain ⟨H5, c5, k5⟩ := F27.ok H3
      refine ⟨H5, call ⟨_, e1, _, _, _, _, _, _, _, _, _, _, rldAll g1, _, _, c2, ?_⟩⟩
      rw [if_pos (by simpa using hl)]
      refine ⟨_, _, _, _, _, _, _, _, _, _, rldAll g2, _, _, _, _, _, c3, ?_⟩
      rw [if_neg (by decide)]
      refine L0_step ?_
      rw [if_pos rfl, if_neg (by decide)]
      exact ⟨_, _, c5, rfl⟩
  · obtain ⟨H5, c5, k5⟩ := F27.ok H2
    refine ⟨H5, call ⟨_, e1, _, _, _, _, _, _, _, _, _, _, rldAll g1, _, _, c2, ?_⟩⟩
    rw [if_neg (by simpa using hl)]
    exact ⟨_, _, c5, rfl⟩
theorem law {H : Heap} {ds : List (List Value)} (h : HoldsAll H [TFm, .int .i64] ds) : ∃ H', Ce 11 (vals [TFm, .int .i64] ds) H = some (.bool true, H') := by
  obtain ⟨d0, _, rfl, h0, h⟩ := h.cons
  obtain ⟨d1, _, rfl, h1, h⟩ := h.cons
  obtain rfl := h.nil
  obtain ⟨f, rfl, hf, hb⟩ := fmOf h0
  obtain ⟨x, rfl, _⟩ := h1.i
  exact ok hf hb x
end F11
end Go.X
