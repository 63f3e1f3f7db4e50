/- The law CellApart. -/
import Derived.Test.YtomibdncbioijaaXzDd
import Derived.Test.YtomibdncbioijaaXzTd9
set_option linter.unusedVariables false
set_option linter.unusedSimpArgs false
set_option maxRecDepth 20000
namespace Go.X
open Go Go.RowKit Go.Proofs
theorem frE_nil {f x : Int} (hf : inP f 0 3) (hx : inP x 0 200) : frE [] f x = 0 := by
  unfold frE; rw [if_neg (fun c => c ⟨hf, hx⟩), if_neg (by simp)]
theorem get4 {f : Int} (hf : inP f 0 3) : ([200, 200, 200, 200] : List Int).getD f.toNat 0 = 200 := by
  obtain ⟨h0, h3⟩ := hf
  have : f = 0 ∨ f = 1 ∨ f = 2 ∨ f = 3 := by omega
  rcases this with rfl | rfl | rfl | rfl <;> rfl
theorem adE4 {l : List C5} {c : C5} (hm : mayC c) (hl : l.length < 64) : adE [200, 200, 200, 200] l c = if ∃ x ∈ l, x.f = c.f ∧ x.s = c.s ∧ x.c = c.c then 9 else 0 := by
  unfold adE
  have := hm.2.1.2
  rw [if_neg (fun h => h hm), get4 hm.1, if_neg (by omega)]
  split
  · rfl
  · rw [if_neg (by omega)]
namespace F9
/-- Two cells are in one place. -/
def K (c d : C5) : Prop := c.f = d.f ∧ c.s = d.s ∧ c.c = d.c
instance (c d : C5) : Decidable (K c d) := by unfold K; infer_instance
theorem l4 {base : Nat} {H : Heap} {D Q : Nat} {a : Option Addr} {k : Nat} {l : List C5} {d : C5} {b : Bool} (ht : TB base H D [200, 200, 200, 200] a k l) (hl : l.length < 64) (sl : SL l) (hm : mayC d) (gd : H.get Q = .row d.cells true) (hQ : Q < base)
    (he : (adE [200, 200, 200, 200] l d == 0) = b) (hr : (if adE [200, 200, 200, 200] l d = 0 then insC d l else l) = [d]) : ∃ H', L4 Q 0 (some ⟨D, 0, none⟩) b false H (.bool true, H') := by
  obtain ⟨a1, k1, H1, c1, t1, kp1⟩ := F18.ok ht (by omega) sl d
  rw [hr] at t1
  have hD := t1.lt
  have hb := t1.lb
  have m1 := kp1.next
  obtain ⟨a2, k2, H2, c2, o2, kp2⟩ := F25.ok t1 (by simp)
  have t2 := t1.keep kp2
  obtain ⟨a3, k3, H3, c3, o3, kp3⟩ := F25.ok t2 (by simp)
  obtain ⟨H4, c4, _⟩ := F19.ok H3
  have g1 : H1.get Q = .row d.cells true := by rw [kp1.get _ hQ]; exact gd
  have m2 := kp2.next
  have g2 : H2.get Q = .row d.cells true := by rw [kp2.get _ (by omega)]; exact g1
  have g3 : H3.get Q = .row d.cells true := by rw [kp3.get _ (by omega)]; exact g2
  obtain ⟨b3, o3', rfl⟩ := o3.sl.at (by simp)
  have ra := Sl.recs C5.z (l := [d]) o3.sl (i := 0) (x := d) rfl
  refine ⟨H4, L4_step ?_⟩
  rw [if_neg (by simp)]
  refine ⟨_, _, _, _, _, rldAll gd, _, _, c1, ?_⟩
  rw [if_pos (by rw [he]; simp)]
  refine ⟨_, _, _, _, c2, ?_⟩
  rw [if_pos (by simp)]
  refine ⟨_, _, _, _, c3, b3, o3', rfl, by omega, by simp, _, _, _, _, _, by simpa using ra, _, _, _, _, _, rldAll g2, ?_⟩
  rw [if_pos (by rw [eqC]; simp)]
  exact ⟨_, _, c4, rldAll g3, rfl⟩
theorem fx1 {c d : C5} (h : c ≠ d) : fx (fun x => c = x) [d] = -1 := by unfold fx; rw [if_neg h]; rfl
theorem l3 {base : Nat} {H : Heap} {D P Q : Nat} {a : Option Addr} {k : Nat} {l l' : List C5} {c d : C5} {b : Bool} (ht : TB base H D [200, 200, 200, 200] a k l) (hl : l.length ≤ 64) (hm : mayC d) (gc : H.get P = .row c.cells true) (gd : H.get Q = .row d.cells true) (hP : P < base) (hQ : Q < base)
    (h0 : 0 ≤ fx (fun x => c = x) l) (hr : remC c l = l') (hl' : l'.length < 64) (sl' : SL l') (h1 : fx (fun x => c = x) l' = -1) (he : (adE [200, 200, 200, 200] l' d == 0) = b) (hf : (if adE [200, 200, 200, 200] l' d = 0 then insC d l' else l') = [d]) : ∃ H', L3 P 0 Q 0 (some ⟨D, 0, none⟩) b false H (.bool true, H') := by
  obtain ⟨a1, k1, H1, c1, t1, kp1⟩ := F26.ok ht hl c
  rw [if_neg (by omega)] at c1
  rw [hr] at t1
  obtain ⟨a2, k2, H2, c2, t2, kp2⟩ := F26.ok t1 (by omega) c
  rw [h1, if_pos (by decide)] at c2
  have e2 : remC c l' = l' := by unfold remC; rw [h1, if_pos (by decide)]
  rw [e2] at t2
  have g1 : H1.get P = .row c.cells true := by rw [kp1.get _ hP]; exact gc
  obtain ⟨H', z⟩ := l4 t2 hl' sl' hm (by rw [kp2.get _ hQ, kp1.get _ hQ]; exact gd) hQ he hf
  refine ⟨H', L3_step ?_⟩
  rw [if_neg (by simp)]
  refine ⟨_, _, _, _, _, rldAll gc, _, _, c1, ?_⟩
  rw [if_pos rfl]
  refine ⟨_, _, _, _, _, rldAll g1, _, _, c2, ?_⟩
  exact z
theorem sl1 (c : C5) : SL [c] := List.pairwise_singleton ..
theorem l2 {base : Nat} {H : Heap} {D P Q : Nat} {a : Option Addr} {k : Nat} {c d : C5} (ht : TB base H D [200, 200, 200, 200] a k []) (hc : mayC c) (hm : mayC d) (gc : H.get P = .row c.cells true) (gd : H.get Q = .row d.cells true) (hP : P < base) (hQ : Q < base) :
    ∃ H', L2 P 0 Q 0 (some ⟨D, 0, none⟩) (decide (K c d)) H (.bool true, H') := by
  obtain ⟨a1, k1, H1, c1, t1, kp1⟩ := F18.ok ht (by simp) List.Pairwise.nil c
  have e1 : adE [200, 200, 200, 200] [] c = 0 := by rw [adE4 hc (by simp), if_neg (by simp)]
  rw [e1] at c1 t1
  rw [if_pos rfl, show insC c [] = [c] from rfl] at t1
  obtain ⟨a2, k2, H2, c2, t2, kp2⟩ := F18.ok t1 (by simp) (sl1 c) d
  have e2 : adE [200, 200, 200, 200] [c] d = if K c d then 9 else 0 := by
    rw [adE4 hm (by simp)]
    by_cases h : K c d
    · rw [if_pos ⟨c, List.mem_singleton.2 rfl, h⟩, if_pos h]
    · rw [if_neg (fun ⟨x, hx, q⟩ => by rw [List.mem_singleton.1 hx] at q; exact h q), if_neg h]
  rw [e2] at c2 t2
  have gd1 : H1.get Q = .row d.cells true := by rw [kp1.get _ hQ]; exact gd
  have gc2 : H2.get P = .row c.cells true := by rw [kp2.get _ hP, kp1.get _ hP]; exact gc
  have gd2 : H2.get Q = .row d.cells true := by rw [kp2.get _ hQ]; exact gd1
  by_cases h : K c d
  · rw [if_pos h] at c2
    rw [if_pos h, if_neg (by decide)] at t2
    have e3 : adE [200, 200, 200, 200] [] d = 0 := by rw [adE4 hm (by simp), if_neg (by simp)]
    obtain ⟨H', z⟩ := l3 (b := true) (l' := []) t2 (by simp) hm gc2 gd2 hP hQ (by unfold fx; rw [if_pos rfl]; decide) (by unfold remC; rw [show fx (fun x => c = x) [c] = 0 by unfold fx; rw [if_pos rfl]]; rfl) (by simp) List.Pairwise.nil rfl
      (by rw [e3]; rfl) (by rw [e3, if_pos rfl]; rfl)
    refine ⟨H', L2_step ⟨_, _, _, _, _, rldAll gc, _, _, c1, _, _, _, _, _, rldAll gd, _, _, c2, rldAll gd1, ?_⟩⟩
    rw [decide_eq_true h, if_pos rfl, if_pos (by decide), if_pos rfl]
    exact z
  · rw [if_neg h] at c2
    rw [if_neg h, if_pos rfl] at t2
    have hne : c ≠ d := fun e => h (by rw [e]; exact ⟨rfl, rfl, rfl⟩)
    have hins : insC d [c] = [c, d] ∨ insC d [c] = [d, c] := by
      unfold insC pos
      by_cases hb : below d c = true
      · rw [List.takeWhile_cons, if_pos hb]; exact .inl rfl
      · rw [List.takeWhile_cons, if_neg hb]; exact .inr rfl
    have hf0 : fx (fun x => c = x) [c, d] = 0 := by unfold fx; rw [if_pos rfl]
    have hf1 : fx (fun x => c = x) [d, c] = 1 := by
      unfold fx; rw [if_neg hne, show fx (fun x => c = x) [c] = 0 by unfold fx; rw [if_pos rfl]]; rfl
    have hK : ∃ x ∈ [d], x.f = d.f ∧ x.s = d.s ∧ x.c = d.c := ⟨d, List.mem_singleton.2 rfl, rfl, rfl, rfl⟩
    have e3 : adE [200, 200, 200, 200] [d] d = 9 := by rw [adE4 hm (by simp), if_pos hK]
    obtain ⟨H', z⟩ := l3 (b := false) (l' := [d]) (l := insC d [c]) t2 (by rcases hins with e | e <;> rw [e] <;> simp) hm gc2 gd2 hP hQ (by rcases hins with e | e <;> rw [e] <;> first | (rw [hf0]; decide) | (rw [hf1]; decide))
      (by rcases hins with e | e <;> rw [e] <;> unfold remC <;> first | (rw [hf0]; rfl) | (rw [hf1]; rfl)) (by simp) (sl1 d) (fx1 hne)
      (by rw [e3]; rfl) (by rw [e3, if_neg (by decide)])
    refine ⟨H', L2_step ⟨_, _, _, _, _, rldAll gc, _, _, c1, _, _, _, _, _, rldAll gd, _, _, c2, rldAll gd1, ?_⟩⟩
    rw [decide_eq_false h, if_pos rfl, if_pos (by decide), if_neg (by decide)]
    exact z
theorem l1 {base : Nat} {H : Heap} {D P Q : Nat} {a : Option Addr} {k : Nat} {c d : C5} (ht : TB base H D [0, 0, 0, 0] a k []) (hc : mayC c) (hm : mayC d) (gc : H.get P = .row c.cells true) (gd : H.get Q = .row d.cells true) (hP : P < base) (hQ : Q < base) :
    ∃ H', L1 P 0 Q 0 (some ⟨D, 0, none⟩) 0 H (.bool true, H') := by
  have hx : inP 200 0 200 := by decide
  obtain ⟨H1, c1, t1, k1⟩ := F20.ok ht (by simp) 0 200
  rw [frE_nil (by decide) hx] at c1 t1
  rw [if_pos rfl] at t1
  obtain ⟨H2, c2, t2, k2⟩ := F20.ok t1 (by simp) 1 200
  rw [frE_nil (by decide) hx] at c2 t2
  rw [if_pos rfl] at t2
  obtain ⟨H3, c3, t3, k3⟩ := F20.ok t2 (by simp) 2 200
  rw [frE_nil (by decide) hx] at c3 t3
  rw [if_pos rfl] at t3
  obtain ⟨H4, c4, t4, k4⟩ := F20.ok t3 (by simp) 3 200
  rw [frE_nil (by decide) hx] at c4 t4
  rw [if_pos rfl] at t4
  have kk := ((k1.trans k2).trans k3).trans k4
  have gc4 : H4.get P = .row c.cells true := by rw [kk.get _ hP]; exact gc
  have gd4 : H4.get Q = .row d.cells true := by rw [kk.get _ hQ]; exact gd
  have t4' : TB base H4 D [200, 200, 200, 200] a k [] := t4
  obtain ⟨H', z⟩ := l2 t4' hc hm gc4 gd4 hP hQ
  refine ⟨H', L1_step ?_⟩
  rw [if_pos (by decide)]
  refine ⟨_, _, c1, ?_⟩
  rw [if_pos rfl, i64 (by decide) (by decide)]
  refine L1_step ?_
  rw [if_pos (by decide)]
  refine ⟨_, _, c2, ?_⟩
  rw [if_pos rfl, i64 (by decide) (by decide)]
  refine L1_step ?_
  rw [if_pos (by decide)]
  refine ⟨_, _, c3, ?_⟩
  rw [if_pos rfl, i64 (by decide) (by decide)]
  refine L1_step ?_
  rw [if_pos (by decide)]
  refine ⟨_, _, c4, ?_⟩
  rw [if_pos rfl, i64 (by decide) (by decide)]
  refine L1_step ?_
  rw [if_neg (by decide)]
  refine ⟨_, rldc' gc4 0, _, rldc' gd4 0, ?_⟩
  by_cases h1 : c.f = d.f
  · rw [if_pos h1]
    refine ⟨_, rldc' gc4 1, _, rldc' gd4 1, ?_⟩
    by_cases h2 : c.s = d.s
    · rw [if_pos h2]
      refine ⟨_, rldc' gc4 2, _, rldc' gd4 2, ?_⟩
      have : (c.c == d.c) = decide (K c d) := by
        by_cases h3 : c.c = d.c
        · rw [decide_eq_true ⟨h1, h2, h3⟩, h3]; simp
        · rw [decide_eq_false (fun q => h3 q.2.2)]; simpa using h3
      rw [this]
      exact z
    · rw [if_neg h2]
      rw [decide_eq_false (fun q => h2 q.2.1)] at z
      exact z
  · rw [if_neg h1]
    rw [decide_eq_false (fun q => h1 q.1)] at z
    exact z
theorem ok (c d : C5) (H : Heap) : ∃ H', Cd 9 [c.agg, d.agg] H = some (.bool true, H') := by
  obtain ⟨H1, H2, e1, e2, n1, n2, g1, gc, gd, k1, k2⟩ := two H c.cells d.cells
  obtain ⟨H3, c3, k3⟩ := F17.ok c H2
  have m3 := k3.next
  have gc3 : H3.get H.next = .row c.cells true := by rw [k3.get _ (by omega)]; exact gc
  have gd3 : H3.get H1.next = .row d.cells true := by rw [k3.get _ (by omega)]; exact gd
  have aw : ∀ X, ∃ H', L0 H.next 0 H1.next 0 true X (.bool true, H') := fun X => by
    obtain ⟨H', c, _⟩ := F19.ok X
    refine ⟨H', L0_step ?_⟩
    rw [if_pos rfl]
    exact ⟨_, _, c, rfl⟩
  by_cases hc : mayC c
  · obtain ⟨H4, c4, k4⟩ := F17.ok d H3
    have m4 := k4.next
    have start : ∀ rv, L0 H.next 0 H1.next 0 (!decide (mayC d)) H4 rv → Cd 9 [c.agg, d.agg] H = some rv := by
      intro rv hv
      refine call ⟨_, e1, _, e2, _, _, _, _, _, rldAll gc, _, _, c3, ?_⟩
      rw [if_pos (decide_eq_true hc)]
      exact ⟨_, _, _, _, _, rldAll gd3, _, _, c4, hv⟩
    by_cases hd : mayC d
    · rw [decide_eq_true hd] at start
      obtain ⟨H5, c5, t5, k5, n5⟩ := F16.ok H4
      have gc5 : H5.get H.next = .row c.cells true := by rw [k5.get _ (by omega), k4.get _ (by omega)]; exact gc3
      have gd5 : H5.get H1.next = .row d.cells true := by rw [k5.get _ (by omega), k4.get _ (by omega)]; exact gd3
      obtain ⟨H', z⟩ := l1 t5 hc hd gc5 gd5 (by omega) (by omega)
      refine ⟨H', start _ (L0_step ?_)⟩
      rw [if_neg (by simp)]
      exact ⟨_, _, c5, z⟩
    · obtain ⟨H', z⟩ := aw H4
      refine ⟨H', start _ ?_⟩
      rw [decide_eq_false hd]
      exact z
  · obtain ⟨H', z⟩ := aw H3
    refine ⟨H', call ⟨_, e1, _, e2, _, _, _, _, _, rldAll gc, _, _, c3, ?_⟩⟩
    rw [if_neg (by simpa using hc)]
    exact z
abbrev TC5 : Ty := .strct (.pair (.int .i64) (.pair (.int .i64) (.pair (.int .i64) (.pair (.int .i64) (.pair (.int .i64) (.unit))))))
theorem cOf {H : Heap} {vs : List Value} (h : Holds H TC5 vs) : ∃ v : C5, vs = v.cells := by
  obtain ⟨_, _, rfl, ⟨a, rfl, _⟩, _, _, rfl, ⟨b, rfl, _⟩, _, _, rfl, ⟨c, rfl, _⟩, _, _, rfl, ⟨d, rfl, _⟩, _, _, rfl, ⟨e, rfl, _⟩, rfl⟩ := h
  exact ⟨⟨a, b, c, d, e⟩, rfl⟩
theorem law {H : Heap} {ds : List (List Value)} (h : HoldsAll H [TC5, TC5] ds) : ∃ H', Cd 9 (vals [TC5, TC5] ds) H = some (.bool true, H') := by
  obtain ⟨d0, _, rfl, h0, h⟩ := h.cons
  obtain ⟨d1, _, rfl, h1, h⟩ := h.cons
  obtain rfl := h.nil
  obtain ⟨a, rfl⟩ := cOf h0
  obtain ⟨b, rfl⟩ := cOf h1
  exact ok a b H
end F9
end Go.X
