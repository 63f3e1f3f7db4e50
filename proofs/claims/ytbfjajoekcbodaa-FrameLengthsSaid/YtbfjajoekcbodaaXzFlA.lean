/- The law of lengths. -/
import Derived.Test.YtbfjajoekcbodaaXzFa
import Derived.Test.YtbfjajoekcbodaaXzEr
import Derived.Test.YtbfjajoekcbodaaXzTeM3
set_option linter.unusedVariables false
set_option linter.unusedSimpArgs false
set_option maxRecDepth 20000
namespace Go.X
open Go Go.RowKit Go.Proofs
namespace F9
theorem ok {H : Heap} {f : Fm} (h : FmOk H f) (hb : IsB f.dt) : ∃ H', Ce 9 [f.agg] H = some (.bool true, H') := by
  obtain ⟨H1, e1, n1, g1, k1⟩ := one H f.cells
  obtain ⟨H2, c2, k2⟩ := F26.ok (h.keep k1)
  have n2 := k2.next
  have g2 : H2.get H.next = .row f.cells true := by rw [k2.get _ (by omega)]; exact g1
  by_cases hl : F26.okP f
  · have h2 := (h.keep k1).keep k2
    obtain ⟨a3, k3', H3, c3, o3, k3⟩ := F33.ok h2 hb
    have n3 := k3.next
    have g3 : H3.get H.next = .row f.cells true := by rw [k3.get _ (by omega)]; exact g2
    by_cases hm : mayF f.v
    · rw [if_pos hm, encFO_may hm] at c3
      rw [encFO_may hm] at o3
      have h3 := h2.keep k3
      obtain ⟨a4, k4', H4, c4, o4, k4⟩ := F20.ok h3.ies h3.ok
      have hok : okL (f.l.map Ie.v) := hm.2.2.2.2.1
      have en : encO (f.l.map Ie.v) = encL (f.l.map Ie.v) := if_pos hok
      rw [en] at c4
      have n4 := k4.next
      have g4 : H4.get H.next = .row f.cells true := by rw [k4.get _ (by omega)]; exact g3
      have hlen : (encF f.v).length = (encL (f.l.map Ie.v)).length + f.dt.length + 9 := encF_len f.v
      have hle := h.len hm
      obtain ⟨b, o, hbo⟩ := o3.sl.at (by omega)
      have o4' : By H4 a3 (encF f.v).length k3' (encF f.v) := o3.sl.keep k4
      rw [hbo] at o4'
      have eb : encF f.v = 197 :: f.kd :: f.s :: f.d :: f.q :: (((encL f.v.es).length : Int) :: (encL f.v.es ++ ((f.v.dt.length : Int) :: f.v.dt))) ++ [lo8 (crcL 0#16 (bodyF f.v)), hi8 (crcL 0#16 (bodyF f.v))] := by
        unfold encF crcA; rw [bodyF_eq]
      have ld : ∀ (i : Nat) (x : Int), (encF f.v)[i]? = some x → ldc H4 b (o + i) = some (.int .u8 x) := fun i x hx => by
        have := Ints.get o4' hx
        rw [Int.toNat_natCast, Nat.mul_one] at this
        exact this
      have hkd := mayF_kd hm
      have m1 : fnode f.s := hm.1
      have m2 : fnode f.d ∨ f.d = 64 := hm.2.1
      have m3 : 0 ≤ f.q ∧ f.q ≤ 255 := hm.2.2.2.1
      have hkd' : 1 ≤ f.kd ∧ f.kd ≤ 5 := hkd
      have d0 : 0 ≤ f.d ∧ f.d < 256 := by rcases m2 with ⟨a, b⟩ | h2 <;> omega
      have s0 : 0 ≤ f.s ∧ f.s < 256 := ⟨m1.1, by have := m1.2; omega⟩
      obtain ⟨H5, c5, k5⟩ := F27.ok H4
      refine ⟨H5, call ⟨_, e1, _, _, _, _, _, _, _, _, _, _, rldAll g1, _, _, c2, ?_⟩⟩
      rw [if_pos (by simpa using hl)]
      refine ⟨_, _, _, _, _, _, _, _, _, _, rldAll g2, _, _, _, _, _, c3, ?_⟩
      rw [if_pos rfl]
      refine ⟨_, _, _, rldc' g3 4, _, _, _, _, _, c4, _, _, _, rldc' g4 5, ?_⟩
      rw [if_pos (by rw [i64 (n := 9 + ((encL (f.l.map Ie.v)).length : Int)) (by omega) (by omega), i64 (by omega) (by omega)]; omega)]
      refine ⟨b, o, hbo, by omega, by omega, _, ld 1 f.kd (by rw [eb]; rfl), _, rldc' g4 0, ?_⟩
      rw [if_pos (i64 (by omega) (by omega))]
      refine ⟨by omega, by omega, _, ld 2 f.s (by rw [eb]; rfl), _, rldc' g4 1, ?_⟩
      rw [if_pos (i64 (by omega) (by omega))]
      refine ⟨by omega, by omega, _, ld 3 f.d (by rw [eb]; rfl), _, rldc' g4 2, ?_⟩
      rw [if_pos (i64 (by omega) (by omega))]
      refine ⟨by omega, by omega, _, ld 4 f.q (by rw [eb]; rfl), _, rldc' g4 3, ?_⟩
      rw [if_pos (i64 (by omega) (by omega))]
      exact ⟨_, _, c5, rfl⟩
    · rw [if_neg hm, encFO_no hm] at c3
      obtain ⟨H5, c5, k5⟩ := F27.ok H3
      refine ⟨H5, call ⟨_, e1, _, _, _, _, _, _, _, _, _, _, rldAll g1, _, _, c2, ?_⟩⟩
      rw [if_pos (by simpa using hl)]
      refine ⟨_, _, _, _, _, _, _, _, _, _, rldAll g2, _, _, _, _, _, c3, ?_⟩
      rw [if_neg (by decide), if_pos (by simp)]
      exact ⟨_, _, c5, rfl⟩
  · obtain ⟨H5, c5, k5⟩ := F27.ok H2
    refine ⟨H5, call ⟨_, e1, _, _, _, _, _, _, _, _, _, _, rldAll g1, _, _, c2, ?_⟩⟩
    rw [if_neg (by simpa using hl)]
    exact ⟨_, _, c5, rfl⟩
theorem law {H : Heap} {ds : List (List Value)} (h : HoldsAll H [TFm] ds) : ∃ H', Ce 9 (vals [TFm] ds) H = some (.bool true, H') := by
  obtain ⟨d0, _, rfl, h0, h⟩ := h.cons
  obtain rfl := h.nil
  obtain ⟨f, rfl, hf, hb⟩ := fmOf h0
  exact ok hf hb
end F9
end Go.X
