/- The law CellFrames. -/
import Derived.Test.YtomibdncbioijaaXzDc
import Derived.Test.YtomibdncbioijaaXzTd8
set_option linter.unusedVariables false
set_option linter.unusedSimpArgs false
set_option maxRecDepth 20000
namespace Go.X
open Go Go.RowKit Go.Proofs
theorem set_get {f x : Int} (hf : inP f 0 3) : (([0, 0, 0, 0] : List Int).set f.toNat x).getD f.toNat 0 = x := by
  rw [List.getD, List.getElem?_set_self (by have := hf.1; have := hf.2; simp; omega)]; rfl
theorem frE_nil {f x : Int} (hf : inP f 0 3) (hx : inP x 0 200) : frE [] f x = 0 := by
  unfold frE; rw [if_neg (fun c => c ⟨hf, hx⟩), if_neg (by simp)]
namespace F8
theorem l2 {base : Nat} {H : Heap} {D P : Nat} {ln : List Int} {a : Option Addr} {k : Nat} {c : C5} {x : Int} (ht : TB base H D ln a k [c]) (g : H.get P = .row c.cells true) (hf : inP c.f 0 3) (hx : ln.getD c.f.toNat 0 = x) : ∃ H', L2 P 0 (some ⟨D, 0, none⟩) x H (.bool true, H') := by
  have c4 := F24.ok ht c.f
  rw [if_pos hf, hx] at c4
  obtain ⟨a5, k5, H5, c5, o5, kp5⟩ := F25.ok ht (by simp)
  obtain ⟨H6, c6, _⟩ := F19.ok H5
  refine ⟨H6, L2_step ⟨_, rldc' g 0, _, _, c4, ?_⟩⟩
  rw [if_pos rfl]
  refine ⟨_, _, _, _, c5, ?_⟩
  rw [if_pos (by simp)]
  exact ⟨_, _, c6, rfl⟩
theorem ok (c : C5) (y : Int) (H : Heap) : ∃ H', Cd 8 [c.agg, .int .i64 y] H = some (.bool true, H') := by
  obtain ⟨x, ex, hx⟩ := modN y 201 (by decide) (by decide)
  obtain ⟨H1, e1, n1, g1, k1⟩ := one H c.cells
  obtain ⟨H2, c2, k2⟩ := F17.ok c H1
  have m2 := k2.next
  have g2 : H2.get H.next = .row c.cells true := by rw [k2.get _ (by omega)]; exact g1
  by_cases hm : mayC c
  · have hf := hm.1
    have hs := hm.2.1
    obtain ⟨H3, c3, t3, k3, n3⟩ := F16.ok H2
    have g3 : H3.get H.next = .row c.cells true := by rw [k3.get _ (by omega)]; exact g2
    obtain ⟨H4, c4, t4, k4⟩ := F20.ok t3 (by simp) c.f 200
    rw [frE_nil hf (by decide)] at c4 t4
    rw [if_pos rfl] at t4
    have g4 : H4.get H.next = .row c.cells true := by rw [k4.get _ (by omega)]; exact g3
    obtain ⟨a5, k5', H5, c5, t5, k5⟩ := F18.first t4 c
    have ad : adE0 (([0, 0, 0, 0] : List Int).set c.f.toNat 200) c = 0 := by
      unfold adE0; rw [if_neg (fun h => h hm), set_get hf, if_neg (by have := hs.2; omega)]
    rw [ad] at c5 t5
    rw [if_pos rfl] at t5
    have g5 : H5.get H.next = .row c.cells true := by rw [k5.get _ (by omega)]; exact g4
    obtain ⟨H6, c6, t6, k6⟩ := F20.ok t5 (by simp) c.f (x : Int)
    have g6 : H6.get H.next = .row c.cells true := by rw [k6.get _ (by omega)]; exact g5
    have hset : ∀ z : Int, ((([0, 0, 0, 0] : List Int).set c.f.toNat 200).set c.f.toNat z).getD c.f.toNat 0 = z := fun z => by
      rw [List.set_set]; exact set_get hf
    have l0 : ∃ H', L0 (x : Int) H.next 0 (some ⟨H2.next, 0, none⟩) false H5 (.bool true, H') := by
      by_cases h : c.s ≥ (x : Int)
      · have fe : frE [c] c.f (x : Int) = 9 := by
          unfold frE; rw [if_neg (fun q => q ⟨hf, ⟨by omega, by omega⟩⟩), if_pos ⟨c, List.mem_singleton.2 rfl, rfl, h⟩]
        rw [fe] at c6 t6
        rw [if_neg (by decide)] at t6
        obtain ⟨H', z⟩ := l2 (x := 200) t6 g6 hf (set_get hf)
        refine ⟨H', L0_step ?_⟩
        rw [if_neg (by decide)]
        refine ⟨_, rldc' g5 0, _, _, c6, _, rldc' g6 1, ?_⟩
        rw [decide_eq_false (by omega), if_pos (by decide), if_neg (by decide)]
        refine L1_step ?_
        rw [if_neg (by decide), if_neg (by decide)]
        exact z
      · have fe : frE [c] c.f (x : Int) = 0 := by
          unfold frE; rw [if_neg (fun q => q ⟨hf, ⟨by omega, by omega⟩⟩), if_neg (fun ⟨d, hd, q⟩ => by rw [List.mem_singleton.1 hd] at q; exact h q.2)]
        rw [fe] at c6 t6
        rw [if_pos rfl] at t6
        obtain ⟨H', z⟩ := l2 (x := (x : Int)) t6 g6 hf (hset _)
        refine ⟨H', L0_step ?_⟩
        rw [if_neg (by decide)]
        refine ⟨_, rldc' g5 0, _, _, c6, _, rldc' g6 1, ?_⟩
        rw [decide_eq_true (by omega), if_pos (by decide), if_pos rfl]
        refine L1_step ?_
        rw [if_neg (by decide), if_pos rfl]
        exact z
    obtain ⟨H', z⟩ := l0
    refine ⟨H', call ⟨_, e1, _, _, _, _, _, rldAll g1, _, _, c2, ?_⟩⟩
    rw [if_pos (decide_eq_true hm)]
    refine ⟨_, _, c3, _, rldc' g3 0, _, _, c4, ?_⟩
    rw [if_pos rfl, ex]
    exact ⟨_, _, _, _, _, rldAll g4, _, _, c5, z⟩
  · obtain ⟨H3, c3, _⟩ := F19.ok H2
    refine ⟨H3, call ⟨_, e1, _, _, _, _, _, rldAll g1, _, _, c2, ?_⟩⟩
    rw [if_neg (by simpa using hm)]
    exact ⟨_, _, c3, rfl⟩
abbrev TC5 : Ty := .strct (.pair (.int .i64) (.pair (.int .i64) (.pair (.int .i64) (.pair (.int .i64) (.pair (.int .i64) (.unit))))))
theorem cOf {H : Heap} {vs : List Value} (h : Holds H TC5 vs) : ∃ v : C5, vs = v.cells := by
  obtain ⟨_, _, rfl, ⟨a, rfl, _⟩, _, _, rfl, ⟨b, rfl, _⟩, _, _, rfl, ⟨c, rfl, _⟩, _, _, rfl, ⟨d, rfl, _⟩, _, _, rfl, ⟨e, rfl, _⟩, rfl⟩ := h
  exact ⟨⟨a, b, c, d, e⟩, rfl⟩
theorem law {H : Heap} {ds : List (List Value)} (h : HoldsAll H [TC5, .int .i64] ds) : ∃ H', Cd 8 (vals [TC5, .int .i64] ds) H = some (.bool true, H') := by
  obtain ⟨d0, _, rfl, h0, h⟩ := h.cons
  obtain ⟨d1, _, rfl, h1, h⟩ := h.cons
  obtain rfl := h.nil
  obtain ⟨a, rfl⟩ := cOf h0
  obtain ⟨y, rfl, _⟩ := h1.i
  exact ok a y H
end F8
end Go.X
