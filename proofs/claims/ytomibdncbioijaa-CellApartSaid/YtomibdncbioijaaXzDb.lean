/- A table of cells. -/
import Derived.Test.YtomibdncbioijaaXzDa
import Derived.Test.YtomibdncbioijaaXzTdT
set_option linter.unusedVariables false
set_option linter.unusedSimpArgs false
set_option maxRecDepth 20000
namespace Go.X
open Go Go.RowKit Go.Proofs
theorem tb4 {ln : List Int} (h : ln.length = 4) {v : Value} : (ln.map (Value.int .i64) ++ [v])[4]? = some v := by
  rw [List.getElem?_append_right (by simp [h])]; simp [h]
theorem tbj {ln : List Int} {j : Nat} (hj : j < ln.length) {v : Value} : (ln.map (Value.int .i64) ++ [v])[j]? = some (.int .i64 (ln.getD j 0)) := by
  rw [List.getElem?_append_left (by simpa using hj), List.getElem?_map, getD_some hj]; rfl
/-- A table: how long each slotframe is; its cells. -/
structure TB (base : Nat) (H : Heap) (D : Nat) (ln : List Int) (a : Option Addr) (k : Nat) (l : List C5) : Prop where
  row : H.get D = .row (ln.map (Value.int .i64) ++ [.slice a l.length k]) true
  own : Own base H 5 a l.length k (l.flatMap C5.cells)
  ap : ¬In1 a D
  len : ln.length = 4
  lb : base ≤ D
  lt : D < H.next
theorem TB.keep {base : Nat} {H H' : Heap} {D : Nat} {ln : List Int} {a : Option Addr} {k : Nat} {l : List C5} (h : TB base H D ln a k l) (kk : Keep H.next H H') : TB base H' D ln a k l :=
  ⟨by rw [kk.get _ h.lt]; exact h.row, h.own.keep kk, h.ap, h.len, h.lb, Nat.lt_of_lt_of_le h.lt kk.next⟩
/-- What holds of a table's cells. -/
def TI (ln : List Int) (l : List C5) : Prop := ∀ c ∈ l, mayC c ∧ c.s < ln.getD c.f.toNat 0
namespace F43
theorem nat {args : List Value} {H : Heap} {r : Value × Heap} (h : natC 43 args H = some r) : Cd 43 args H = some r :=
  xC_of (k := 1) (by rw [xcall, if_neg (by decide)]; exact h)
theorem ok {base : Nat} {H : Heap} {a a2 : Option Addr} {n k k2 : Nat} {vs ws : List Value} (ho : Own base H 5 a n k vs) (h2 : Sl H 5 a2 1 k2 ws) (hb : base ≤ H.next) (hn : n ≤ 1000) :
    ∃ a' k' H', Cd 43 [.slice a n k, .int .i64 (n : Int), .slice a2 1 k2] H = some (.slice a' (n + 1) k', H') ∧ Own base H' 5 a' (n + 1) k' (vs ++ ws) ∧ Chg (In1 a) H H' ∧ ∀ b, In1 a' b → In1 a b ∨ H.next ≤ b := by
  obtain ⟨a', k', H', c, o, f, i⟩ := Own.append' (by_ := 40) ho h2 (by decide) hb (by omega) (by omega)
  refine ⟨a', k', H', nat ?_, o, f, i⟩
  unfold natC
  rw [if_pos rfl]
  simp only [if_true]
  unfold papp at c
  cases hx : xappend H 5 40 (.slice a n k) (.slice a2 1 k2) with
  | none => rw [hx] at c; cases c
  | some v =>
    obtain ⟨v, H''⟩ := v
    rw [hx] at c
    simp only at c
    cases v <;> simp [asSl] at c
    obtain ⟨⟨rfl, rfl, rfl⟩, rfl⟩ := c
    rfl
/-- .. anywhere. -/
theorem any {base base2 : Nat} {H : Heap} {a : Option Addr} {n k k2 b2 o2 i : Nat} {vs ws : List Value} (ho : Own base H 5 a n k vs) (h2 : Own base2 H 5 (some ⟨b2, o2, none⟩) 1 k2 ws) (hap : ¬In1 a b2) (hb : base ≤ H.next) (hi : i ≤ n) (hn : n ≤ 1000) :
    ∃ a' k' H', Cd 43 [.slice a n k, .int .i64 (i : Int), .slice (some ⟨b2, o2, none⟩) 1 k2] H = some (.slice a' (n + 1) k', H') ∧ Own base H' 5 a' (n + 1) k' (vs.take (i * 5) ++ ws ++ vs.drop (i * 5)) ∧ Chg (In1 a) H H' ∧ ∀ b, In1 a' b → In1 a b ∨ H.next ≤ b := by
  by_cases hin : i = n
  · subst hin
    obtain ⟨a', k', H', c, o, f, g⟩ := ok ho h2.sl hb hn
    have hl := ho.len
    rw [List.take_of_length_le (by omega), List.drop_eq_nil_of_le (by omega), List.append_nil]
    exact ⟨a', k', H', c, o, f, g⟩
  · obtain ⟨hl, ⟨_, rfl, _⟩ | ⟨b, o, cs, rfl, rfl, h3, h4, h5, h6, h7⟩⟩ := ho
    · omega
    · obtain ⟨hl2, ⟨q, _, _⟩ | ⟨b2', o2', cs2, q1, rfl, q3, q4, q5, q6, q7⟩⟩ := h2
      · cases q
      · cases q1
        have hne : b ≠ b2 := fun e => hap (In1.eq.2 e.symm)
        have e1 : (cs2.drop o2).take 5 = ws := q7
        have e2 : (cs.drop o).take (i * 5) = vs.take (i * 5) := by rw [← h7, List.take_take, Nat.min_eq_left (by omega)]
        have hlen : (vs.take (i * 5) ++ ws ++ vs.drop (i * 5)).length = (n + 1) * 5 := by
          rw [List.length_append, List.length_append, List.length_take, List.length_drop]; omega
        have own := (Own.new (H := H.set b .dead) (z := 5) (n := n + 1) (vs := vs.take (i * 5) ++ ws ++ vs.drop (i * 5)) hlen).weak (base' := base) (by simpa using hb)
        refine ⟨_, _, _, nat ?_, own, (Chg.set (S := In1 (some ⟨b, o, none⟩)) _ (In1.eq.2 rfl)).trans (Chg.push (S := In1 (some ⟨b, o, none⟩)) _) (fun _ _ h => h), fun b' hb' => .inr (Nat.le_of_eq (In1.eq.1 hb').symm)⟩
        unfold natC
        rw [if_pos rfl]
        simp only
        rw [if_neg (by omega)]
        simp only [h5, q5]
        rw [if_pos ⟨hne, by first | trivial | rfl, by omega, by omega, hn, h6, by omega⟩, Int.toNat_natCast, e1, e2, h7]
        rfl
end F43
/-- The first cell of which it is so. -/
def fx (p : C5 → Prop) [DecidablePred p] : List C5 → Int
  | [] => -1
  | c :: l => if p c then 0 else if fx p l < 0 then -1 else fx p l + 1
theorem fx_le (p : C5 → Prop) [DecidablePred p] : ∀ l : List C5, -1 ≤ fx p l ∧ fx p l < l.length
  | [] => by simp [fx]
  | c :: l => by
    have := fx_le p l
    unfold fx
    simp only [List.length_cons]
    by_cases h : p c
    · rw [if_pos h]; omega
    · rw [if_neg h]
      by_cases h2 : fx p l < 0
      · rw [if_pos h2]; omega
      · rw [if_neg h2]; omega
theorem fx_ex (p : C5 → Prop) [DecidablePred p] : ∀ l : List C5, 0 ≤ fx p l ↔ ∃ c ∈ l, p c
  | [] => by simp [fx]
  | c :: l => by
    have ih := fx_ex p l
    unfold fx
    by_cases h : p c
    · rw [if_pos h]; exact ⟨fun _ => ⟨c, List.mem_cons_self .., h⟩, fun _ => Int.le_refl _⟩
    · rw [if_neg h]
      by_cases h2 : fx p l < 0
      · rw [if_pos h2]
        refine ⟨fun c => by omega, fun ⟨d, hd, hp⟩ => ?_⟩
        rcases List.mem_cons.1 hd with rfl | hd
        · exact absurd hp h
        · have := ih.2 ⟨d, hd, hp⟩; omega
      · rw [if_neg h2]
        refine ⟨fun _ => ?_, fun _ => by omega⟩
        obtain ⟨d, hd, hp⟩ := ih.1 (by omega)
        exact ⟨d, List.mem_cons_of_mem _ hd, hp⟩
namespace F49
theorem l0p {G : Heap} {a : Option Addr} {n k g : Nat} {ys : Array Value} {l : List C5} {p : C5 → Prop} [DecidablePred p] (hg : fnGoes Try.prog g = true) (hp : ∀ (c : C5) (X : Heap), Keep G.next G X → ∃ H', Cd g ([c.agg] ++ ys.toList) X = some (.bool (decide (p c)), H') ∧ Keep X.next X H')
    (hs : Cells G a n k l) (hn : n ≤ 1000000000) : ∀ (rest : List C5) (j : Nat) (H : Heap), l.drop j = rest → j + rest.length = n → Keep G.next G H → ∃ H', L0 a n k (.func (.func g) #[] ys) (n : Int) (j : Int) H (.int .i64 (if fx p rest < 0 then -1 else j + fx p rest), H') ∧ Keep G.next H H' := by
  intro rest
  induction rest with
  | nil =>
    intro j H hd hj hk
    simp only [List.length_nil] at hj
    refine ⟨H, L0_step ?_, Keep.refl _ _⟩
    rw [if_neg (by omega)]
    rfl
  | cons c rest ih =>
    intro j H hd hj hk
    simp only [List.length_cons] at hj
    obtain ⟨b, o, rfl⟩ := hs.at (by omega)
    have hx := drop_get hd
    have ra := (hs.keep hk).recs C5.z hx
    obtain ⟨H1, c1, k1⟩ := hp c H hk
    have k1' := k1.weak hk.next
    have hbl := fx_le p rest
    by_cases e : p c
    · refine ⟨H1, L0_step ?_, k1'⟩
      rw [if_pos (by omega)]
      refine ⟨b, o, rfl, by omega, by omega, _, _, _, _, _, ra, g, #[], ys, rfl, hg, _, H1, by simpa using c1, ?_⟩
      rw [if_pos (decide_eq_true e)]
      have e1 : fx p (c :: rest) = 0 := by unfold fx; rw [if_pos e]
      rw [e1, if_neg (by omega), Int.add_zero]
    · obtain ⟨H', z, k'⟩ := ih (j + 1) H1 (drop_next hd) (by omega) (hk.trans k1')
      refine ⟨H', L0_step ?_, k1'.trans k'⟩
      rw [if_pos (by omega)]
      refine ⟨b, o, rfl, by omega, by omega, _, _, _, _, _, ra, g, #[], ys, rfl, hg, _, H1, by simpa using c1, ?_⟩
      rw [if_neg (by simpa using e), i64 (by omega) (by omega)]
      have : (if fx p (c :: rest) < 0 then (-1 : Int) else j + fx p (c :: rest)) = if fx p rest < 0 then -1 else ((j + 1 : Nat) : Int) + fx p rest := by
        have e1 : fx p (c :: rest) = if fx p rest < 0 then -1 else fx p rest + 1 := by conv => lhs; unfold fx; rw [if_neg e]
        rw [e1]
        by_cases h : fx p rest < 0
        · rw [if_pos h, if_pos h, if_pos (by omega)]
        · rw [if_neg h, if_neg h, if_neg (by omega)]; omega
      rw [this]
      exact_mod_cast z
end F49
namespace F39
theorem ok {H : Heap} {a : Option Addr} {n k g : Nat} {ys : Array Value} {l : List C5} {p : C5 → Prop} [DecidablePred p] (hg : fnGoes Try.prog g = true) (hp : ∀ (c : C5) (X : Heap), Keep H.next H X → ∃ H', Cd g ([c.agg] ++ ys.toList) X = some (.bool (decide (p c)), H') ∧ Keep X.next X H')
    (hs : Cells H a n k l) (hn : n ≤ 1000000000) : ∃ H', Cd 39 [.slice a n k, .func (.func g) #[] ys] H = some (.bool (decide (∃ c ∈ l, p c)), H') ∧ Keep H.next H H' := by
  have hl := hs.cnt C5.z (by decide)
  obtain ⟨H', z, k'⟩ := F49.l0p hg hp hs hn l 0 H rfl (by omega) (Keep.refl _ _)
  have h2 := fx_le p l
  have e : (if fx p l < 0 then (-1 : Int) else ((0 : Nat) : Int) + fx p l) = fx p l := by split <;> omega
  rw [e] at z
  refine ⟨H', call ⟨_, _, F49.call z, ?_⟩, k'⟩
  have : decide (fx p l ≥ 0) = decide (∃ c ∈ l, p c) := decide_eq_decide.2 (fx_ex p l)
  rw [this]
end F39
namespace F40
theorem ok (x c : C5) {H : Heap} {b : Nat} (g : H.get b = .row c.cells true) (hb : b < H.next) : ∃ H', Cd 40 [x.agg, .pointer (some ⟨b, 0, none⟩)] H = some (.bool (decide (x.f = c.f ∧ x.s = c.s ∧ x.c = c.c)), H') ∧ Keep H.next H H' := by
  obtain ⟨H1, e1, n1, g1, k1⟩ := one H x.cells
  have gb : H1.get b = .row c.cells true := by rw [k1.get _ hb]; exact g
  refine ⟨H1, call ⟨_, e1, _, rldc' g1 0, b, 0, rfl, _, rldc' gb 0, ?_⟩, k1⟩
  by_cases h : x.f = c.f
  · rw [if_pos h]
    refine ⟨_, rldc' g1 1, _, rldc' gb 1, ?_⟩
    by_cases h2 : x.s = c.s
    · rw [if_pos h2]
      refine ⟨_, rldc' g1 2, _, rldc' gb 2, ?_⟩
      have : (x.c == c.c) = decide (x.f = c.f ∧ x.s = c.s ∧ x.c = c.c) := by
        by_cases h3 : x.c = c.c
        · rw [decide_eq_true ⟨h, h2, h3⟩, h3]; simp
        · rw [decide_eq_false (fun q => h3 q.2.2)]; simpa using h3
      rw [this]
    · rw [if_neg h2, decide_eq_false (fun q => h2 q.2.1)]
  · rw [if_neg h, decide_eq_false (fun q => h q.1)]
theorem goes : fnGoes Try.prog 40 = true := by kernel_rfl
end F40
namespace F44
theorem ok (x : C5) (h n : Int) {H : Heap} {b b' : Nat} (g : H.get b = .row [.int .i64 h] true) (hb : b < H.next) (g' : H.get b' = .row [.int .i64 n] true) (hb' : b' < H.next) : ∃ H', Cd 44 [x.agg, .pointer (some ⟨b, 0, none⟩), .pointer (some ⟨b', 0, none⟩)] H = some (.bool (decide (x.f = h ∧ x.s ≥ n)), H') ∧ Keep H.next H H' := by
  obtain ⟨H1, e1, n1, g1, k1⟩ := one H x.cells
  have gb : H1.get b = .row [.int .i64 h] true := by rw [k1.get _ hb]; exact g
  have gb' : H1.get b' = .row [.int .i64 n] true := by rw [k1.get _ hb']; exact g'
  refine ⟨H1, call ⟨_, e1, _, rldc' g1 0, b, 0, rfl, _, rldc' gb 0, ?_⟩, k1⟩
  by_cases e : x.f = h
  · rw [if_pos e]
    refine ⟨_, rldc' g1 1, b', 0, rfl, _, rldc' gb' 0, ?_⟩
    have : decide (x.s ≥ n) = decide (x.f = h ∧ x.s ≥ n) := decide_eq_decide.2 ⟨fun q => ⟨e, q⟩, fun q => q.2⟩
    rw [this]
  · rw [if_neg e, decide_eq_false (fun q => e q.1)]
theorem goes : fnGoes Try.prog 44 = true := by kernel_rfl
end F44
namespace F16
theorem ok (H : Heap) : ∃ H', Cd 16 [] H = some (.pointer (some ⟨H.next, 0, none⟩), H') ∧ TB H.next H' H.next [0, 0, 0, 0] none 0 [] ∧ Keep H.next H H' ∧ H'.next = H.next + 1 := by
  obtain ⟨H1, e1, n1, g1, k1⟩ := one H [.int .i64 0, .int .i64 0, .int .i64 0, .int .i64 0, .slice none 0 0]
  exact ⟨H1, call ⟨_, e1, rfl⟩, ⟨g1, ⟨rfl, .inl ⟨rfl, rfl, rfl⟩⟩, In1.none, rfl, Nat.le_refl _, by omega⟩, k1, n1⟩
end F16
/-- What it answers to a slotframe. -/
def frE (l : List C5) (h n : Int) : Int := if ¬(inP h 0 3 ∧ inP n 0 200) then 1 else if ∃ c ∈ l, c.f = h ∧ c.s ≥ n then 9 else 0
namespace F20
theorem ok {base : Nat} {H : Heap} {D : Nat} {ln : List Int} {a : Option Addr} {k : Nat} {l : List C5} (ht : TB base H D ln a k l) (hl : l.length ≤ 1000) (h n : Int) :
    ∃ H', Cd 20 [.pointer (some ⟨D, 0, none⟩), .int .i64 h, .int .i64 n] H = some (.int .i64 (frE l h n), H') ∧ TB base H' D (if frE l h n = 0 then ln.set h.toNat n else ln) a k l ∧ Keep base H H' := by
  obtain ⟨H1, H2, e1, e2, n1, n2, g1, ga, gb, k1, k2⟩ := two H [.int .i64 h] [.int .i64 n]
  have ht2 := ht.keep k2
  have hbn := ht.lt
  have hlb := ht.lb
  have kb : Keep base H H2 := k2.weak (by omega)
  unfold frE
  by_cases h1 : inP h 0 3
  · by_cases h2 : inP n 0 200
    · rw [if_neg (fun c => c ⟨h1, h2⟩)]
      obtain ⟨H3, c3, k3⟩ := F39.ok (p := fun c => c.f = h ∧ c.s ≥ n) (g := 44) (ys := #[.pointer (some ⟨H.next, 0, none⟩), .pointer (some ⟨H1.next, 0, none⟩)]) F44.goes (fun c X kX => F44.ok c h n (by rw [kX.get _ (by omega)]; exact ga) (by have := kX.next; omega) (by rw [kX.get _ (by omega)]; exact gb) (by have := kX.next; omega)) ht2.own.sl (by omega)
      have ht3 := ht2.keep k3
      have m3 := k3.next
      have start : ∀ rv, (if (∃ c ∈ l, c.f = h ∧ c.s ≥ n) then rv = (.int .i64 9, H3) else ∃ H4, stc H3 D (0 + Int.toNat h * 1) [.int .i64 n] = some H4 ∧ rv = (.int .i64 0, H4)) → Cd 20 [.pointer (some ⟨D, 0, none⟩), .int .i64 h, .int .i64 n] H = some rv := by
        intro rv hv
        refine call ⟨_, e1, _, e2, ?_⟩
        rw [if_neg (by simp)]
        refine ⟨_, rldc' ga 0, _, _, F38.ok _ _ _ _, ?_⟩
        rw [if_pos (decide_eq_true h1)]
        refine ⟨_, rldc' gb 0, _, _, F38.ok _ _ _ _, ?_⟩
        rw [decide_eq_true h2]
        refine L0_step ?_
        rw [if_neg (by simp)]
        refine ⟨D, 0, rfl, _, _, _, (rldc' ht2.row 4).trans (tb4 ht.len), _, _, c3, ?_⟩
        by_cases e : ∃ c ∈ l, c.f = h ∧ c.s ≥ n
        · rw [if_pos e] at hv
          rw [if_pos (decide_eq_true e)]; exact hv
        · rw [if_neg e] at hv
          obtain ⟨H4, s4, hv⟩ := hv
          rw [if_neg (by simpa using e)]
          refine ⟨_, rldc' (show H3.get H.next = .row [.int .i64 h] true by rw [k3.get _ (by omega)]; exact ga) 0, _, rldc' (show H3.get H1.next = .row [.int .i64 n] true by rw [k3.get _ (by omega)]; exact gb) 0, h1.1, by have := h1.2; omega, H4, s4, hv⟩
      by_cases e : ∃ c ∈ l, c.f = h ∧ c.s ≥ n
      · rw [if_pos e, if_neg (by decide)]
        exact ⟨H3, start _ (by rw [if_pos e]), ht3, kb.trans (k3.weak (by omega))⟩
      · rw [if_neg e, if_pos rfl]
        have hj : h.toNat < ln.length := by rw [ht.len]; have := h1.1; have := h1.2; omega
        have s4 : stc H3 D (0 + Int.toNat h * 1) [.int .i64 n] = some (H3.set D (.row ((ln.set h.toNat n).map (Value.int .i64) ++ [.slice a l.length k]) true)) := by
          rw [show 0 + Int.toNat h * 1 = h.toNat by omega, rstc' ht3.row (i := h.toNat) (by simp; omega)]
          congr 3
          rw [List.set_append_left _ _ (by simpa using hj), List.map_set]
        refine ⟨_, start _ (by rw [if_neg e]; exact ⟨_, s4, rfl⟩), ⟨Heap.get_set_same _ _ _, ht3.own.chg (chgSet' _) (fun b hb hh => ht.ap ((show b = D from hh) ▸ hb)), ht.ap, by rw [List.length_set]; exact ht.len, hlb, ht3.lt⟩, (kb.trans (k3.weak (by omega))).trans (Keep.set _ hlb)⟩
    · rw [if_pos (fun c => h2 c.2), if_neg (by decide)]
      refine ⟨H2, call ⟨_, e1, _, e2, ?_⟩, ht2, kb⟩
      rw [if_neg (by simp)]
      refine ⟨_, rldc' ga 0, _, _, F38.ok _ _ _ _, ?_⟩
      rw [if_pos (decide_eq_true h1)]
      refine ⟨_, rldc' gb 0, _, _, F38.ok _ _ _ _, ?_⟩
      rw [decide_eq_false h2]
      refine L0_step ?_
      rw [if_pos (by simp)]
  · rw [if_pos (fun c => h1 c.1), if_neg (by decide)]
    refine ⟨H2, call ⟨_, e1, _, e2, ?_⟩, ht2, kb⟩
    rw [if_neg (by simp)]
    refine ⟨_, rldc' ga 0, _, _, F38.ok _ _ _ _, ?_⟩
    rw [if_neg (by simpa using h1)]
    refine L0_step ?_
    rw [if_pos rfl]
theorem nil (h n : Int) (H : Heap) : ∃ H', Cd 20 [.pointer none, .int .i64 h, .int .i64 n] H = some (.int .i64 1, H') ∧ Keep H.next H H' := by
  obtain ⟨H1, H2, e1, e2, n1, n2, g1, ga, gb, k1, k2⟩ := two H [.int .i64 h] [.int .i64 n]
  refine ⟨H2, call ⟨_, e1, _, e2, ?_⟩, k2⟩
  rw [if_pos (by simp)]
  refine L0_step ?_
  rw [if_pos rfl]
end F20
end Go.X
