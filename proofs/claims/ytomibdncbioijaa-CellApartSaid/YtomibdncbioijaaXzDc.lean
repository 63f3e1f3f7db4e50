/- A table's first cell; what is active; a cell that every program must know. -/
import Derived.Test.YtomibdncbioijaaXzDb
set_option linter.unusedVariables false
set_option linter.unusedSimpArgs false
set_option maxRecDepth 20000
namespace Go.X
open Go Go.RowKit Go.Proofs
/-- What the first cell is answered. -/
def adE0 (ln : List Int) (c : C5) : Int := if ¬mayC c then 1 else if c.s ≥ ln.getD c.f.toNat 0 then 6 else 0
namespace F41
theorem none_ (a : Option Addr) (k : Nat) (c : C5) (f : Value) (H : Heap) : ∃ H', Cd 41 [.slice a 0 k, c.agg, f] H = some (.tuple #[.int .i64 0, .bool false], H') ∧ Keep H.next H H' := by
  obtain ⟨H1, e1, n1, g1, k1⟩ := one H c.cells
  refine ⟨H1, call ⟨_, e1, L0_step ?_⟩, k1⟩
  rw [if_neg (by decide), if_neg (by decide)]
end F41
namespace F18
theorem nil (c : C5) (H : Heap) : ∃ H', Cd 18 [.pointer none, c.agg] H = some (.int .i64 1, H') ∧ Keep H.next H H' := by
  obtain ⟨H1, e1, n1, g1, k1⟩ := one H c.cells
  refine ⟨H1, call ⟨_, e1, ?_⟩, k1⟩
  rw [if_pos (by simp)]
  refine L0_step ?_
  rw [if_pos rfl]
theorem first {base : Nat} {H : Heap} {D : Nat} {ln : List Int} {a : Option Addr} {k : Nat} (ht : TB base H D ln a k []) (c : C5) :
    ∃ a' k' H', Cd 18 [.pointer (some ⟨D, 0, none⟩), c.agg] H = some (.int .i64 (adE0 ln c), H') ∧ TB base H' D ln a' k' (if adE0 ln c = 0 then [c] else []) ∧ Keep base H H' := by
  obtain ⟨H1, e1, n1, g1, k1⟩ := one H c.cells
  obtain ⟨H2, c2, k2⟩ := F17.ok c H1
  have k12 := k1.trans (k2.weak (by omega))
  have ht2 := ht.keep k12
  have hlt := ht.lt
  have hlb := ht.lb
  have kb : Keep base H H2 := k12.weak (by omega)
  have m2 := k2.next
  have start : ∀ rv, L0 (some ⟨D, 0, none⟩) H.next 0 (!decide (mayC c)) H2 rv → Cd 18 [.pointer (some ⟨D, 0, none⟩), c.agg] H = some rv := by
    intro rv hv
    refine call ⟨_, e1, ?_⟩
    rw [if_neg (by simp)]
    exact ⟨_, _, _, _, _, rldAll g1, _, _, c2, hv⟩
  unfold adE0
  by_cases hm : mayC c
  · rw [if_neg (fun x => x hm)]
    have g2 : H2.get H.next = .row c.cells true := by rw [k2.get _ (by omega)]; exact g1
    have hf := hm.1
    have ld : ldc H2 D (0 + Int.toNat c.f * 1) = some (.int .i64 (ln.getD c.f.toNat 0)) := by
      rw [show 0 + Int.toNat c.f * 1 = c.f.toNat by omega, rldc' ht2.row]
      exact tbj (by rw [ht.len]; have := hf.1; have := hf.2; omega)
    by_cases hs : c.s ≥ ln.getD c.f.toNat 0
    · rw [if_pos hs, if_neg (by decide)]
      refine ⟨a, k, H2, start _ (L0_step ?_), ht2, kb⟩
      rw [if_neg (by simpa using hm)]
      refine ⟨_, rldc' g2 1, _, rldc' g2 0, D, 0, rfl, hf.1, by have := hf.2; omega, _, ld, ?_⟩
      rw [if_pos hs]
    · rw [if_neg hs, if_pos rfl]
      obtain ⟨H3, c3, k3⟩ := F39.ok (p := fun x => x.f = c.f ∧ x.s = c.s ∧ x.c = c.c) (g := 40) (ys := #[.pointer (some ⟨H.next, 0, none⟩)]) F40.goes (fun x X kX => F40.ok x c (by rw [kX.get _ (by omega)]; exact g2) (by have := kX.next; omega)) ht2.own.sl (by simp)
      rw [decide_eq_false (by simp)] at c3
      have ht3 := ht2.keep k3
      have m3 := k3.next
      have g3 : H3.get H.next = .row c.cells true := by rw [k3.get _ (by omega)]; exact g2
      obtain ⟨H4, c4, k4⟩ := F41.none_ a k c (.func (.func 42) #[] #[]) H3
      have ht4 := ht3.keep k4
      have m4 := k4.next
      have g4 : H4.get H.next = .row c.cells true := by rw [k4.get _ (by omega)]; exact g3
      obtain ⟨H5, e5, n5, g5, k5⟩ := one H4 c.cells
      have ht5 := ht4.keep k5
      have s5 : Sl H5 5 (some ⟨H4.next, 0, none⟩) 1 (UNK 5) c.cells := by rw [e5]; exact (Own.new (H := H4) (z := 5) (n := 1) (vs := c.cells) rfl).sl
      obtain ⟨a6, k6, H6, c6, o6, f6, i6⟩ := F43.ok ht5.own s5 (by omega) (by simp)
      have m6 := f6.next
      have r6 : H6.get D = .row (ln.map (Value.int .i64) ++ [.slice a 0 k]) true := by rw [f6.get _ (by omega) ht.ap]; exact ht5.row
      have ls : (ln.map (Value.int .i64)).length = 4 := by rw [List.length_map]; exact ht.len
      have s7 : stc H6 D 4 [.slice a6 1 k6] = some (H6.set D (.row (ln.map (Value.int .i64) ++ [.slice a6 1 k6]) true)) := by
        rw [rstc' r6 (i := 4) (by simp [ht.len])]
        congr 3
        rw [List.set_append_right _ _ (by omega), ls]; rfl
      have apD : ¬In1 a6 D := fun hh => by
        rcases i6 D hh with h | h
        · exact ht.ap h
        · omega
      refine ⟨a6, k6, _, start _ (L0_step ?_), ⟨Heap.get_set_same _ _ _, ?_, apD, ht.len, hlb, by show D < H6.next; omega⟩, ((((kb.trans (k3.weak (by omega))).trans (k4.weak (by omega))).trans (k5.weak (by omega))).trans (f6.keep (by omega) fun b _ hh => (ht5.own.lt hh).1)).trans (Keep.set _ hlb)⟩
      · rw [if_neg (by simpa using hm)]
        refine ⟨_, rldc' g2 1, _, rldc' g2 0, D, 0, rfl, hf.1, by have := hf.2; omega, _, ld, ?_⟩
        rw [if_neg hs]
        refine ⟨_, _, _, (rldc' ht2.row 4).trans (tb4 ht.len), _, _, c3, ?_⟩
        rw [if_neg (by simp)]
        refine ⟨_, _, _, (rldc' ht3.row 4).trans (tb4 ht.len), ?_⟩
        rw [if_neg (by simp)]
        exact ⟨_, _, _, (rldc' ht3.row 4).trans (tb4 ht.len), _, _, _, _, _, rldAll g3, _, _, _, c4, _, _, _, (rldc' ht4.row 4).trans (tb4 ht.len), _, _, _, _, _, rldAll g4, _, e5, _, _, _, _, c6, _, s7, (rldc' ht5.row 4).trans (tb4 ht.len), rfl⟩
      · have := o6.chg (chgSet' (p := D) (.row (ln.map (Value.int .i64) ++ [.slice a6 1 k6]) true)) fun b hb hh => apD ((show b = D from hh) ▸ hb)
        simpa using this
  · rw [if_pos hm, if_neg (by decide)]
    refine ⟨a, k, H2, start _ (L0_step ?_), ht2, kb⟩
    rw [if_pos (by simpa using hm)]
end F18
/-- What is active now. -/
def act (ln : List Int) (asn : Int) (l : List C5) : List C5 := if asn < 0 ∨ asn ≥ 1099511627776 then [] else l.filter fun c => decide (c.s = Int.tmod asn (ln.getD c.f.toNat 0))
theorem filter_snoc (p : C5 → Bool) (c : C5) (l : List C5) : (c :: l).filter p = if p c then c :: l.filter p else l.filter p := List.filter_cons ..
namespace F21
theorem l1 {base : Nat} {G : Heap} {D : Nat} {ln : List Int} {a : Option Addr} {k : Nat} {l : List C5} {asn : Int} (ht : TB base G D ln a k l) (hl : l.length ≤ 1000) (ti : ∀ c ∈ l, inP c.f 0 3 ∧ ln.getD c.f.toNat 0 ≠ 0) : ∀ (rest : List C5) (j : Nat) (x : Option Addr) (k' : Nat) (out : List C5) (H : Heap), l.drop j = rest → j + rest.length = l.length → out.length ≤ j → Keep G.next G H → Own G.next H 5 x out.length k' (out.flatMap C5.cells) →
    ∃ x' k'' H', L1 D 0 asn x out.length k' a l.length k (l.length : Int) (j : Int) H (.slice x' (out ++ rest.filter fun c => decide (c.s = Int.tmod asn (ln.getD c.f.toNat 0))).length k'', H') ∧ Cells H' x' (out ++ rest.filter fun c => decide (c.s = Int.tmod asn (ln.getD c.f.toNat 0))).length k'' (out ++ rest.filter fun c => decide (c.s = Int.tmod asn (ln.getD c.f.toNat 0))) ∧ Keep G.next G H' := by
  intro rest
  induction rest with
  | nil =>
    intro j x k' out H hd hj ho hk hown
    simp only [List.length_nil] at hj
    refine ⟨x, k', H, L1_step ?_, by simpa using hown.sl, hk⟩
    rw [if_neg (by omega)]
    simp
  | cons c rest ih =>
    intro j x k' out H hd hj ho hk hown
    simp only [List.length_cons] at hj
    have hs : Cells G a l.length k l := ht.own.sl
    obtain ⟨b, o, rfl⟩ := hs.at (by omega)
    have hx := drop_get hd
    have ra := (hs.keep hk).recs C5.z hx
    obtain ⟨H2, s2, g2, k2, n2⟩ := fill H c50.cells c.cells rfl
    have hk2 := hk.th k2
    obtain ⟨t1, t2⟩ := ti c (List.mem_of_getElem? hx)
    have ht2 := ht.keep hk2
    have hmn := hk.next
    have ld : ldc H2 D (0 + Int.toNat c.f * 1) = some (.int .i64 (ln.getD c.f.toNat 0)) := by
      rw [show 0 + Int.toNat c.f * 1 = c.f.toNat by omega, rldc' ht2.row]
      exact tbj (by rw [ht.len]; have := t1.1; have := t1.2; omega)
    have ei : IntKind.wrap .i64 ((j : Int) + 1) = ((j + 1 : Nat) : Int) := by rw [i64 (by omega) (by omega)]; omega
    by_cases e : c.s = Int.tmod asn (ln.getD c.f.toNat 0)
    · obtain ⟨H3, e3, n3, g3, k3⟩ := one H2 c.cells
      have s3 : Sl H3 5 (some ⟨H2.next, 0, none⟩) 1 (UNK 5) c.cells := by rw [e3]; exact (Own.new (H := H2) (z := 5) (n := 1) (vs := c.cells) rfl).sl
      have hk3 := hk2.th k3
      have m3 := hk3.next
      obtain ⟨x4, k4, H4, c4, o4, f4, i4⟩ := Own.append' (by_ := 40) ((hown.keep k2).keep k3) s3 (by decide) m3 (by omega) (by omega)
      have hk4 : Keep G.next G H4 := hk3.trans (f4.keep m3 fun b _ hh => (((hown.keep k2).keep k3).lt hh).1)
      have ef : (out ++ [c]).flatMap C5.cells = out.flatMap C5.cells ++ c.cells := by simp
      have el : (out ++ [c]).length = out.length + 1 := by simp
      obtain ⟨x', k'', H', z, q1, q2⟩ := ih (j + 1) x4 k4 (out ++ [c]) H4 (drop_next hd) (by omega) (by omega) hk4 (by rw [ef, el]; exact o4)
      have ew : (out ++ [c]) ++ rest.filter (fun c => decide (c.s = Int.tmod asn (ln.getD c.f.toNat 0))) = out ++ (c :: rest).filter fun c => decide (c.s = Int.tmod asn (ln.getD c.f.toNat 0)) := by
        rw [filter_snoc, if_pos (decide_eq_true e)]; simp
      rw [ew] at z q1
      refine ⟨x', k'', H', L1_step ?_, q1, q2⟩
      rw [if_pos (by omega), ei]
      refine ⟨b, o, rfl, by omega, by omega, _, _, _, _, _, ra, _, rfl, H2, s2, _, rldc' g2 1, _, rldc' g2 0, t1.1, by have := t1.2; omega, _, ld, t2, ?_⟩
      rw [if_pos e]
      rw [el] at z
      exact ⟨_, _, _, _, _, rldAll g2, _, e3, _, _, _, _, c4, z⟩
    · obtain ⟨x', k'', H', z, q1, q2⟩ := ih (j + 1) x k' out H2 (drop_next hd) (by omega) (by omega) hk2 (hown.keep k2)
      have ew : rest.filter (fun c => decide (c.s = Int.tmod asn (ln.getD c.f.toNat 0))) = (c :: rest).filter fun c => decide (c.s = Int.tmod asn (ln.getD c.f.toNat 0)) := by
        rw [filter_snoc, if_neg (by simpa using e)]
      rw [ew] at z q1
      refine ⟨x', k'', H', L1_step ?_, q1, q2⟩
      rw [if_pos (by omega), ei]
      refine ⟨b, o, rfl, by omega, by omega, _, _, _, _, _, ra, _, rfl, H2, s2, _, rldc' g2 1, _, rldc' g2 0, t1.1, by have := t1.2; omega, _, ld, t2, ?_⟩
      rw [if_neg e]
      exact z
theorem ok {base : Nat} {H : Heap} {D : Nat} {ln : List Int} {a : Option Addr} {k : Nat} {l : List C5} (ht : TB base H D ln a k l) (hl : l.length ≤ 1000) (ti : ∀ c ∈ l, inP c.f 0 3 ∧ ln.getD c.f.toNat 0 ≠ 0) (asn : Int) :
    ∃ x k' H', Cd 21 [.pointer (some ⟨D, 0, none⟩), .int .i64 asn] H = some (.slice x (act ln asn l).length k', H') ∧ Cells H' x (act ln asn l).length k' (act ln asn l) ∧ Keep H.next H H' := by
  have none_ : L0 (some ⟨D, 0, none⟩) asn true H (.slice none 0 0, H) := L0_step (by rw [if_pos rfl])
  unfold act
  by_cases h : asn < 0 ∨ asn ≥ 1099511627776
  · rw [if_pos h]
    refine ⟨none, 0, H, call ?_, ⟨rfl, .inl ⟨rfl, rfl, rfl⟩⟩, Keep.refl _ _⟩
    rw [if_neg (by simp)]
    by_cases h0 : asn < 0
    · rw [if_pos h0]; exact none_
    · rw [if_neg h0, decide_eq_true (by omega)]; exact none_
  · rw [if_neg h]
    obtain ⟨x, k', H', z, q1, q2⟩ := l1 (asn := asn) ht hl ti l 0 none 0 [] H rfl (by omega) (by simp) (Keep.refl _ _) ⟨rfl, .inl ⟨rfl, rfl, rfl⟩⟩
    rw [List.nil_append] at z q1
    refine ⟨x, k', H', call ?_, q1, q2⟩
    rw [if_neg (by simp), if_neg (by omega), decide_eq_false (by omega)]
    refine L0_step ?_
    rw [if_neg (by decide)]
    exact ⟨D, 0, rfl, _, _, _, (rldc' ht.row 4).trans (tb4 ht.len), z⟩
theorem nil (asn : Int) (H : Heap) : Cd 21 [.pointer none, .int .i64 asn] H = some (.slice none 0 0, H) := by
  refine call ?_
  rw [if_pos (by simp)]
  refine L0_step ?_
  rw [if_pos rfl]
end F21
namespace F24
theorem ok {base : Nat} {H : Heap} {D : Nat} {ln : List Int} {a : Option Addr} {k : Nat} {l : List C5} (ht : TB base H D ln a k l) (h : Int) : Cd 24 [.pointer (some ⟨D, 0, none⟩), .int .i64 h] H = some (.int .i64 (if inP h 0 3 then ln.getD h.toNat 0 else 0), H) := by
  refine call ?_
  rw [if_neg (by simp)]
  refine ⟨_, _, F38.ok _ _ _ _, L0_step ?_⟩
  by_cases c : inP h 0 3
  · rw [if_neg (by simpa using c), if_pos c]
    refine ⟨D, 0, rfl, c.1, by have := c.2; omega, _, ?_, rfl⟩
    rw [show 0 + Int.toNat h * 1 = h.toNat by omega, rldc' ht.row]
    exact tbj (by rw [ht.len]; have := c.1; have := c.2; omega)
  · rw [if_pos (by simpa using c), if_neg c]
theorem nil (h : Int) (H : Heap) : Cd 24 [.pointer none, .int .i64 h] H = some (.int .i64 0, H) := by
  refine call ?_
  rw [if_pos (by simp)]
  refine L0_step ?_
  rw [if_pos rfl]
end F24
namespace F25
theorem ok {base : Nat} {H : Heap} {D : Nat} {ln : List Int} {a : Option Addr} {k : Nat} {l : List C5} (ht : TB base H D ln a k l) (hl : l.length ≤ 1000) : ∃ a' k' H', Cd 25 [.pointer (some ⟨D, 0, none⟩)] H = some (.slice a' l.length k', H') ∧ Own H.next H' 5 a' l.length k' (l.flatMap C5.cells) ∧ Keep H.next H H' := by
  obtain ⟨a', k', H', c, o, kk⟩ := F33.ok (l := l) ht.own.sl (by omega)
  refine ⟨a', k', H', call ?_, o, kk⟩
  rw [if_neg (by simp)]
  exact ⟨D, 0, rfl, _, _, _, (rldc' ht.row 4).trans (tb4 ht.len), _, _, _, _, c, rfl⟩
theorem nil (H : Heap) : Cd 25 [.pointer none] H = some (.slice none 0 0, H) := by
  refine call ?_
  rw [if_pos (by simp)]
end F25
namespace F19
theorem ok (H : Heap) : ∃ H', Cd 19 [] H = some (.bool true, H') ∧ Keep H.next H H' := by
  obtain ⟨H1, c1, t1, k1, n1⟩ := F16.ok H
  obtain ⟨H2, c2, t2, k2⟩ := F20.ok t1 (by simp) 0 5
  have e2 : frE [] 0 5 = 0 := by unfold frE; rw [if_neg (fun c => c ⟨by decide, by decide⟩), if_neg (by simp)]
  rw [e2] at c2 t2
  rw [if_pos rfl] at t2
  obtain ⟨a3, k3', H3, c3, t3, k3⟩ := F18.first t2 ⟨0, 2, 0, 1, 3⟩
  have e3 : adE0 (([0, 0, 0, 0] : List Int).set (0 : Int).toNat 5) ⟨0, 2, 0, 1, 3⟩ = 0 := by decide +kernel
  rw [e3] at c3 t3
  rw [if_pos rfl] at t3
  have ti : ∀ c ∈ ([⟨0, 2, 0, 1, 3⟩] : List C5), inP c.f 0 3 ∧ (([0, 0, 0, 0] : List Int).set (0 : Int).toNat 5).getD c.f.toNat 0 ≠ 0 := fun c hc => by
    rw [List.mem_singleton.1 hc]; decide
  obtain ⟨x4, k4', H4, c4, s4, k4⟩ := F21.ok t3 (by simp) ti 7
  have e4 : act (([0, 0, 0, 0] : List Int).set (0 : Int).toNat 5) 7 [⟨0, 2, 0, 1, 3⟩] = [⟨0, 2, 0, 1, 3⟩] := by decide +kernel
  rw [e4] at c4 s4
  obtain ⟨x5, k5', H5, c5, s5, k5⟩ := F21.ok (t3.keep k4) (by simp) ti 8
  have e5 : act (([0, 0, 0, 0] : List Int).set (0 : Int).toNat 5) 8 [⟨0, 2, 0, 1, 3⟩] = [] := by decide +kernel
  rw [e5] at c5 s5
  obtain ⟨b4, o4, rfl⟩ := s4.at (by simp)
  have ld := s4.seg.ldc (i := 4) (v := .int .i64 3) rfl
  have m1 := k1.next
  have m2 := k2.next
  have m3 := k3.next
  have m4 := k4.next
  refine ⟨H5, call ⟨_, _, c1, _, _, c2, _, _, c3, _, _, _, _, c4, ?_⟩, (((k1.trans k2).trans k3).trans (k4.weak (by omega))).trans (k5.weak (by omega))⟩
  rw [if_pos rfl, if_pos rfl, if_pos (by simp)]
  refine ⟨b4, o4, rfl, by omega, by simp, _, ld, ?_⟩
  rw [if_pos rfl]
  exact ⟨_, _, _, _, c5, rfl⟩
end F19
end Go.X
