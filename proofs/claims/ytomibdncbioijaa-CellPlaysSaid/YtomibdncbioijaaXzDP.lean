/- A table of cells. -/
import Derived.Test.YtomibdncbioijaaXzDa
import Derived.Test.YtomibdncbioijaaXzTdT
import Derived.Test.YtomibdncbioijaaXzTdU
import Derived.Test.YtomibdncbioijaaXzD
import Derived.Test.YtomibdncbioijaaXzTdV
set_option linter.unusedVariables false
set_option linter.unusedSimpArgs false
set_option maxRecDepth 20000
namespace Go.X
open Go Go.RowKit Go.Proofs
theorem tb4 {ln : List Int} (h : ln.length = 4) {v : Value} : (ln.map (Value.int .i64) ++ [v])[4]? = some v := by
  rw [List.getElem?_append_right (by simp [h])]; simp [h]
theorem tbj {ln : List Int} {j : Nat} (hj : j < ln.length) {v : Value} : (ln.map (Value.int .i64) ++ [v])[j]? = some (.int .i64 (ln.getD j 0)) := by
  rw [List.getElem?_append_left (by simpa using hj), List.getElem?_map, getD_some hj]; rfl
/-- A table: how long each slotframe is; its cells. -/
structure TB (base : Nat) (H : Heap) (D : Nat) (ln : List Int) (a : Option Addr) (k : Nat) (l : List C5) : Prop where
  row : H.get D = .row (ln.map (Value.int .i64) ++ [.slice a l.length k]) true
  own : Own base H 5 a l.length k (l.flatMap C5.cells)
  ap : ¬In1 a D
  len : ln.length = 4
  lb : base ≤ D
  lt : D < H.next
theorem TB.keep {base : Nat} {H H' : Heap} {D : Nat} {ln : List Int} {a : Option Addr} {k : Nat} {l : List C5} (h : TB base H D ln a k l) (kk : Keep H.next H H') : TB base H' D ln a k l :=
  ⟨by rw [kk.get _ h.lt]; exact h.row, h.own.keep kk, h.ap, h.len, h.lb, Nat.lt_of_lt_of_le h.lt kk.next⟩
/-- What holds of a table's cells. -/
def TI (ln : List Int) (l : List C5) : Prop := ∀ c ∈ l, mayC c ∧ c.s < ln.getD c.f.toNat 0
namespace F43
theorem nat {args : List Value} {H : Heap} {r : Value × Heap} (h : natC 43 args H = some r) : Cd 43 args H = some r :=
  xC_of (k := 1) (by rw [xcall, if_neg (by decide)]; exact h)
theorem ok {base : Nat} {H : Heap} {a a2 : Option Addr} {n k k2 : Nat} {vs ws : List Value} (ho : Own base H 5 a n k vs) (h2 : Sl H 5 a2 1 k2 ws) (hb : base ≤ H.next) (hn : n ≤ 1000) :
    ∃ a' k' H', Cd 43 [.slice a n k, .int .i64 (n : Int), .slice a2 1 k2] H = some (.slice a' (n + 1) k', H') ∧ Own base H' 5 a' (n + 1) k' (vs ++ ws) ∧ Chg (In1 a) H H' ∧ ∀ b, In1 a' b → In1 a b ∨ H.next ≤ b := by
  obtain ⟨a', k', H', c, o, f, i⟩ := Own.append' (by_ := 40) ho h2 (by decide) hb (by omega) (by omega)
  refine ⟨a', k', H', nat ?_, o, f, i⟩
  unfold natC
  rw [if_pos rfl]
  simp only [if_true]
  unfold papp at c
  cases hx : xappend H 5 40 (.slice a n k) (.slice a2 1 k2) with
  | none => rw [hx] at c; cases c
  | some v =>
    obtain ⟨v, H''⟩ := v
    rw [hx] at c
    simp only at c
    cases v <;> simp [asSl] at c
    obtain ⟨⟨rfl, rfl, rfl⟩, rfl⟩ := c
    rfl
/-- .. anywhere. -/
theorem any {base base2 : Nat} {H : Heap} {a : Option Addr} {n k k2 b2 o2 i : Nat} {vs ws : List Value} (ho : Own base H 5 a n k vs) (h2 : Own base2 H 5 (some ⟨b2, o2, none⟩) 1 k2 ws) (hap : ¬In1 a b2) (hb : base ≤ H.next) (hi : i ≤ n) (hn : n ≤ 1000) :
    ∃ a' k' H', Cd 43 [.slice a n k, .int .i64 (i : Int), .slice (some ⟨b2, o2, none⟩) 1 k2] H = some (.slice a' (n + 1) k', H') ∧ Own base H' 5 a' (n + 1) k' (vs.take (i * 5) ++ ws ++ vs.drop (i * 5)) ∧ Chg (In1 a) H H' ∧ ∀ b, In1 a' b → In1 a b ∨ H.next ≤ b := by
  by_cases hin : i = n
  · subst hin
    obtain ⟨a', k', H', c, o, f, g⟩ := ok ho h2.sl hb hn
    have hl := ho.len
    rw [List.take_of_length_le (by omega), List.drop_eq_nil_of_le (by omega), List.append_nil]
    exact ⟨a', k', H', c, o, f, g⟩
  · obtain ⟨hl, ⟨_, rfl, _⟩ | ⟨b, o, cs, rfl, rfl, h3, h4, h5, h6, h7⟩⟩ := ho
    · omega
    · obtain ⟨hl2, ⟨q, _, _⟩ | ⟨b2', o2', cs2, q1, rfl, q3, q4, q5, q6, q7⟩⟩ := h2
      · cases q
      · cases q1
        have hne : b ≠ b2 := fun e => hap (In1.eq.2 e.symm)
        have e1 : (cs2.drop o2).take 5 = ws := q7
        have e2 : (cs.drop o).take (i * 5) = vs.take (i * 5) := by rw [← h7, List.take_take, Nat.min_eq_left (by omega)]
        have hlen : (vs.take (i * 5) ++ ws ++ vs.drop (i * 5)).length = (n + 1) * 5 := by
          rw [List.length_append, List.length_append, List.length_take, List.length_drop]; omega
        have own := (Own.new (H := H.set b .dead) (z := 5) (n := n + 1) (vs := vs.take (i * 5) ++ ws ++ vs.drop (i * 5)) hlen).weak (base' := base) (by simpa using hb)
        refine ⟨_, _, _, nat ?_, own, (Chg.set (S := In1 (some ⟨b, o, none⟩)) _ (In1.eq.2 rfl)).trans (Chg.push (S := In1 (some ⟨b, o, none⟩)) _) (fun _ _ h => h), fun b' hb' => .inr (Nat.le_of_eq (In1.eq.1 hb').symm)⟩
        unfold natC
        rw [if_pos rfl]
        simp only
        rw [if_neg (by omega)]
        simp only [h5, q5]
        rw [if_pos ⟨hne, by first | trivial | rfl, by omega, by omega, hn, h6, by omega⟩, Int.toNat_natCast, e1, e2, h7]
        rfl
end F43
/-- The first cell of which it is so. -/
def fx (p : C5 → Prop) [DecidablePred p] : List C5 → Int
  | [] => -1
  | c :: l => if p c then 0 else if fx p l < 0 then -1 else fx p l + 1
theorem fx_le (p : C5 → Prop) [DecidablePred p] : ∀ l : List C5, -1 ≤ fx p l ∧ fx p l < l.length
  | [] => by simp [fx]
  | c :: l => by
    have := fx_le p l
    unfold fx
    simp only [List.length_cons]
    by_cases h : p c
    · rw [if_pos h]; omega
    · rw [if_neg h]
      by_cases h2 : fx p l < 0
      · rw [if_pos h2]; omega
      · rw [if_neg h2]; omega
theorem fx_ex (p : C5 → Prop) [DecidablePred p] : ∀ l : List C5, 0 ≤ fx p l ↔ ∃ c ∈ l, p c
  | [] => by simp [fx]
  | c :: l => by
    have ih := fx_ex p l
    unfold fx
    by_cases h : p c
    · rw [if_pos h]; exact ⟨fun _ => ⟨c, List.mem_cons_self .., h⟩, fun _ => Int.le_refl _⟩
    · rw [if_neg h]
      by_cases h2 : fx p l < 0
      · rw [if_pos h2]
        refine ⟨fun c => by omega, fun ⟨d, hd, hp⟩ => ?_⟩
        rcases List.mem_cons.1 hd with rfl | hd
        · exact absurd hp h
        · have := ih.2 ⟨d, hd, hp⟩; omega
      · rw [if_neg h2]
        refine ⟨fun _ => ?_, fun _ => by omega⟩
        obtain ⟨d, hd, hp⟩ := ih.1 (by omega)
        exact ⟨d, List.mem_cons_of_mem _ hd, hp⟩
namespace F49
theorem l0p {G : Heap} {a : Option Addr} {n k g : Nat} {ys : Array Value} {l : List C5} {p : C5 → Prop} [DecidablePred p] (hg : fnGoes Try.prog g = true) (hp : ∀ (c : C5) (X : Heap), Keep G.next G X → ∃ H', Cd g ([c.agg] ++ ys.toList) X = some (.bool (decide (p c)), H') ∧ Keep X.next X H')
    (hs : Cells G a n k l) (hn : n ≤ 1000000000) : ∀ (rest : List C5) (j : Nat) (H : Heap), l.drop j = rest → j + rest.length = n → Keep G.next G H → ∃ H', L0 a n k (.func (.func g) #[] ys) (n : Int) (j : Int) H (.int .i64 (if fx p rest < 0 then -1 else j + fx p rest), H') ∧ Keep G.next H H' := by
  intro rest
  induction rest with
  | nil =>
    intro j H hd hj hk
    simp only [List.length_nil] at hj
    refine ⟨H, L0_step ?_, Keep.refl _ _⟩
    rw [if_neg (by omega)]
    rfl
  | cons c rest ih =>
    intro j H hd hj hk
    simp only [List.length_cons] at hj
    obtain ⟨b, o, rfl⟩ := hs.at (by omega)
    have hx := drop_get hd
    have ra := (hs.keep hk).recs C5.z hx
    obtain ⟨H1, c1, k1⟩ := hp c H hk
    have k1' := k1.weak hk.next
    have hbl := fx_le p rest
    by_cases e : p c
    · refine ⟨H1, L0_step ?_, k1'⟩
      rw [if_pos (by omega)]
      refine ⟨b, o, rfl, by omega, by omega, _, _, _, _, _, ra, g, #[], ys, rfl, hg, _, H1, by simpa using c1, ?_⟩
      rw [if_pos (decide_eq_true e)]
      have e1 : fx p (c :: rest) = 0 := by unfold fx; rw [if_pos e]
      rw [e1, if_neg (by omega), Int.add_zero]
    · obtain ⟨H', z, k'⟩ := ih (j + 1) H1 (drop_next hd) (by omega) (hk.trans k1')
      refine ⟨H', L0_step ?_, k1'.trans k'⟩
      rw [if_pos (by omega)]
      refine ⟨b, o, rfl, by omega, by omega, _, _, _, _, _, ra, g, #[], ys, rfl, hg, _, H1, by simpa using c1, ?_⟩
      rw [if_neg (by simpa using e), i64 (by omega) (by omega)]
      have : (if fx p (c :: rest) < 0 then (-1 : Int) else j + fx p (c :: rest)) = if fx p rest < 0 then -1 else ((j + 1 : Nat) : Int) + fx p rest := by
        have e1 : fx p (c :: rest) = if fx p rest < 0 then -1 else fx p rest + 1 := by conv => lhs; unfold fx; rw [if_neg e]
        rw [e1]
        by_cases h : fx p rest < 0
        · rw [if_pos h, if_pos h, if_pos (by omega)]
        · rw [if_neg h, if_neg h, if_neg (by omega)]; omega
      rw [this]
      exact_mod_cast z
end F49
namespace F39
theorem ok {H : Heap} {a : Option Addr} {n k g : Nat} {ys : Array Value} {l : List C5} {p : C5 → Prop} [DecidablePred p] (hg : fnGoes Try.prog g = true) (hp : ∀ (c : C5) (X : Heap), Keep H.next H X → ∃ H', Cd g ([c.agg] ++ ys.toList) X = some (.bool (decide (p c)), H') ∧ Keep X.next X H')
    (hs : Cells H a n k l) (hn : n ≤ 1000000000) : ∃ H', Cd 39 [.slice a n k, .func (.func g) #[] ys] H = some (.bool (decide (∃ c ∈ l, p c)), H') ∧ Keep H.next H H' := by
  have hl := hs.cnt C5.z (by decide)
  obtain ⟨H', z, k'⟩ := F49.l0p hg hp hs hn l 0 H rfl (by omega) (Keep.refl _ _)
  have h2 := fx_le p l
  have e : (if fx p l < 0 then (-1 : Int) else ((0 : Nat) : Int) + fx p l) = fx p l := by split <;> omega
  rw [e] at z
  refine ⟨H', call ⟨_, _, F49.call z, ?_⟩, k'⟩
  have : decide (fx p l ≥ 0) = decide (∃ c ∈ l, p c) := decide_eq_decide.2 (fx_ex p l)
  rw [this]
end F39
namespace F40
theorem ok (x c : C5) {H : Heap} {b : Nat} (g : H.get b = .row c.cells true) (hb : b < H.next) : ∃ H', Cd 40 [x.agg, .pointer (some ⟨b, 0, none⟩)] H = some (.bool (decide (x.f = c.f ∧ x.s = c.s ∧ x.c = c.c)), H') ∧ Keep H.next H H' := by
  obtain ⟨H1, e1, n1, g1, k1⟩ := one H x.cells
  have gb : H1.get b = .row c.cells true := by rw [k1.get _ hb]; exact g
  refine ⟨H1, call ⟨_, e1, _, rldc' g1 0, b, 0, rfl, _, rldc' gb 0, ?_⟩, k1⟩
  by_cases h : x.f = c.f
  · rw [if_pos h]
    refine ⟨_, rldc' g1 1, _, rldc' gb 1, ?_⟩
    by_cases h2 : x.s = c.s
    · rw [if_pos h2]
      refine ⟨_, rldc' g1 2, _, rldc' gb 2, ?_⟩
      have : (x.c == c.c) = decide (x.f = c.f ∧ x.s = c.s ∧ x.c = c.c) := by
        by_cases h3 : x.c = c.c
        · rw [decide_eq_true ⟨h, h2, h3⟩, h3]; simp
        · rw [decide_eq_false (fun q => h3 q.2.2)]; simpa using h3
      rw [this]
    · rw [if_neg h2, decide_eq_false (fun q => h2 q.2.1)]
  · rw [if_neg h, decide_eq_false (fun q => h q.1)]
theorem goes : fnGoes Try.prog 40 = true := by kernel_rfl
end F40
namespace F44
theorem ok (x : C5) (h n : Int) {H : Heap} {b b' : Nat} (g : H.get b = .row [.int .i64 h] true) (hb : b < H.next) (g' : H.get b' = .row [.int .i64 n] true) (hb' : b' < H.next) : ∃ H', Cd 44 [x.agg, .pointer (some ⟨b, 0, none⟩), .pointer (some ⟨b', 0, none⟩)] H = some (.bool (decide (x.f = h ∧ x.s ≥ n)), H') ∧ Keep H.next H H' := by
  obtain ⟨H1, e1, n1, g1, k1⟩ := one H x.cells
  have gb : H1.get b = .row [.int .i64 h] true := by rw [k1.get _ hb]; exact g
  have gb' : H1.get b' = .row [.int .i64 n] true := by rw [k1.get _ hb']; exact g'
  refine ⟨H1, call ⟨_, e1, _, rldc' g1 0, b, 0, rfl, _, rldc' gb 0, ?_⟩, k1⟩
  by_cases e : x.f = h
  · rw [if_pos e]
    refine ⟨_, rldc' g1 1, b', 0, rfl, _, rldc' gb' 0, ?_⟩
    have : decide (x.s ≥ n) = decide (x.f = h ∧ x.s ≥ n) := decide_eq_decide.2 ⟨fun q => ⟨e, q⟩, fun q => q.2⟩
    rw [this]
  · rw [if_neg e, decide_eq_false (fun q => e q.1)]
theorem goes : fnGoes Try.prog 44 = true := by kernel_rfl
end F44
namespace F16
theorem ok (H : Heap) : ∃ H', Cd 16 [] H = some (.pointer (some ⟨H.next, 0, none⟩), H') ∧ TB H.next H' H.next [0, 0, 0, 0] none 0 [] ∧ Keep H.next H H' ∧ H'.next = H.next + 1 := by
  obtain ⟨H1, e1, n1, g1, k1⟩ := one H [.int .i64 0, .int .i64 0, .int .i64 0, .int .i64 0, .slice none 0 0]
  exact ⟨H1, call ⟨_, e1, rfl⟩, ⟨g1, ⟨rfl, .inl ⟨rfl, rfl, rfl⟩⟩, In1.none, rfl, Nat.le_refl _, by omega⟩, k1, n1⟩
end F16
/-- What it answers to a slotframe. -/
def frE (l : List C5) (h n : Int) : Int := if ¬(inP h 0 3 ∧ inP n 0 200) then 1 else if ∃ c ∈ l, c.f = h ∧ c.s ≥ n then 9 else 0
namespace F20
theorem ok {base : Nat} {H : Heap} {D : Nat} {ln : List Int} {a : Option Addr} {k : Nat} {l : List C5} (ht : TB base H D ln a k l) (hl : l.length ≤ 1000) (h n : Int) :
    ∃ H', Cd 20 [.pointer (some ⟨D, 0, none⟩), .int .i64 h, .int .i64 n] H = some (.int .i64 (frE l h n), H') ∧ TB base H' D (if frE l h n = 0 then ln.set h.toNat n else ln) a k l ∧ Keep base H H' ∧ Chg (fun b => b = D) H H' := by
  obtain ⟨H1, H2, e1, e2, n1, n2, g1, ga, gb, k1, k2⟩ := two H [.int .i64 h] [.int .i64 n]
  have ht2 := ht.keep k2
  have hbn := ht.lt
  have hlb := ht.lb
  have kb : Keep base H H2 := k2.weak (by omega)
  unfold frE
  by_cases h1 : inP h 0 3
  · by_cases h2 : inP n 0 200
    · rw [if_neg (fun c => c ⟨h1, h2⟩)]
      obtain ⟨H3, c3, k3⟩ := F39.ok (p := fun c => c.f = h ∧ c.s ≥ n) (g := 44) (ys := #[.pointer (some ⟨H.next, 0, none⟩), .pointer (some ⟨H1.next, 0, none⟩)]) F44.goes (fun c X kX => F44.ok c h n (by rw [kX.get _ (by omega)]; exact ga) (by have := kX.next; omega) (by rw [kX.get _ (by omega)]; exact gb) (by have := kX.next; omega)) ht2.own.sl (by omega)
      have ht3 := ht2.keep k3
      have m3 := k3.next
      have start : ∀ rv, (if (∃ c ∈ l, c.f = h ∧ c.s ≥ n) then rv = (.int .i64 9, H3) else ∃ H4, stc H3 D (0 + Int.toNat h * 1) [.int .i64 n] = some H4 ∧ rv = (.int .i64 0, H4)) → Cd 20 [.pointer (some ⟨D, 0, none⟩), .int .i64 h, .int .i64 n] H = some rv := by
        intro rv hv
        refine call ⟨_, e1, _, e2, ?_⟩
        rw [if_neg (by simp)]
        refine ⟨_, rldc' ga 0, _, _, F38.ok _ _ _ _, ?_⟩
        rw [if_pos (decide_eq_true h1)]
        refine ⟨_, rldc' gb 0, _, _, F38.ok _ _ _ _, ?_⟩
        rw [decide_eq_true h2]
        refine L0_step ?_
        rw [if_neg (by simp)]
        refine ⟨D, 0, rfl, _, _, _, (rldc' ht2.row 4).trans (tb4 ht.len), _, _, c3, ?_⟩
        by_cases e : ∃ c ∈ l, c.f = h ∧ c.s ≥ n
        · rw [if_pos e] at hv
          rw [if_pos (decide_eq_true e)]; exact hv
        · rw [if_neg e] at hv
          obtain ⟨H4, s4, hv⟩ := hv
          rw [if_neg (by simpa using e)]
          refine ⟨_, rldc' (show H3.get H.next = .row [.int .i64 h] true by rw [k3.get _ (by omega)]; exact ga) 0, _, rldc' (show H3.get H1.next = .row [.int .i64 n] true by rw [k3.get _ (by omega)]; exact gb) 0, h1.1, by have := h1.2; omega, H4, s4, hv⟩
      by_cases e : ∃ c ∈ l, c.f = h ∧ c.s ≥ n
      · rw [if_pos e, if_neg (by decide)]
        exact ⟨H3, start _ (by rw [if_pos e]), ht3, kb.trans (k3.weak (by omega)), (k2.trans (k3.weak (by omega))).chg0⟩
      · rw [if_neg e, if_pos rfl]
        have hj : h.toNat < ln.length := by rw [ht.len]; have := h1.1; have := h1.2; omega
        have s4 : stc H3 D (0 + Int.toNat h * 1) [.int .i64 n] = some (H3.set D (.row ((ln.set h.toNat n).map (Value.int .i64) ++ [.slice a l.length k]) true)) := by
          rw [show 0 + Int.toNat h * 1 = h.toNat by omega, rstc' ht3.row (i := h.toNat) (by simp; omega)]
          congr 3
          rw [List.set_append_left _ _ (by simpa using hj), List.map_set]
        refine ⟨_, start _ (by rw [if_neg e]; exact ⟨_, s4, rfl⟩), ⟨Heap.get_set_same _ _ _, ht3.own.chg (chgSet' _) (fun b hb hh => ht.ap ((show b = D from hh) ▸ hb)), ht.ap, by rw [List.length_set]; exact ht.len, hlb, ht3.lt⟩, (kb.trans (k3.weak (by omega))).trans (Keep.set _ hlb), ((k2.trans (k3.weak (by omega))).chg0 (S := fun b => b = D)).trans (chgSet' _) fun _ _ h => h⟩
    · rw [if_pos (fun c => h2 c.2), if_neg (by decide)]
      refine ⟨H2, call ⟨_, e1, _, e2, ?_⟩, ht2, kb, k2.chg0⟩
      rw [if_neg (by simp)]
      refine ⟨_, rldc' ga 0, _, _, F38.ok _ _ _ _, ?_⟩
      rw [if_pos (decide_eq_true h1)]
      refine ⟨_, rldc' gb 0, _, _, F38.ok _ _ _ _, ?_⟩
      rw [decide_eq_false h2]
      refine L0_step ?_
      rw [if_pos (by simp)]
  · rw [if_pos (fun c => h1 c.1), if_neg (by decide)]
    refine ⟨H2, call ⟨_, e1, _, e2, ?_⟩, ht2, kb, k2.chg0⟩
    rw [if_neg (by simp)]
    refine ⟨_, rldc' ga 0, _, _, F38.ok _ _ _ _, ?_⟩
    rw [if_neg (by simpa using h1)]
    refine L0_step ?_
    rw [if_pos rfl]
theorem nil (h n : Int) (H : Heap) : ∃ H', Cd 20 [.pointer none, .int .i64 h, .int .i64 n] H = some (.int .i64 1, H') ∧ Keep H.next H H' := by
  obtain ⟨H1, H2, e1, e2, n1, n2, g1, ga, gb, k1, k2⟩ := two H [.int .i64 h] [.int .i64 n]
  refine ⟨H2, call ⟨_, e1, _, e2, ?_⟩, k2⟩
  rw [if_pos (by simp)]
  refine L0_step ?_
  rw [if_pos rfl]
end F20
/-- What the first cell is answered. -/
def adE0 (ln : List Int) (c : C5) : Int := if ¬mayC c then 1 else if c.s ≥ ln.getD c.f.toNat 0 then 6 else 0
namespace F41
theorem none_ (a : Option Addr) (k : Nat) (c : C5) (f : Value) (H : Heap) : ∃ H', Cd 41 [.slice a 0 k, c.agg, f] H = some (.tuple #[.int .i64 0, .bool false], H') ∧ Keep H.next H H' := by
  obtain ⟨H1, e1, n1, g1, k1⟩ := one H c.cells
  refine ⟨H1, call ⟨_, e1, L0_step ?_⟩, k1⟩
  rw [if_neg (by decide), if_neg (by decide)]
end F41
namespace F18
theorem nil (c : C5) (H : Heap) : ∃ H', Cd 18 [.pointer none, c.agg] H = some (.int .i64 1, H') ∧ Keep H.next H H' := by
  obtain ⟨H1, e1, n1, g1, k1⟩ := one H c.cells
  refine ⟨H1, call ⟨_, e1, ?_⟩, k1⟩
  rw [if_pos (by simp)]
  refine L0_step ?_
  rw [if_pos rfl]
theorem first {base : Nat} {H : Heap} {D : Nat} {ln : List Int} {a : Option Addr} {k : Nat} (ht : TB base H D ln a k []) (c : C5) :
    ∃ a' k' H', Cd 18 [.pointer (some ⟨D, 0, none⟩), c.agg] H = some (.int .i64 (adE0 ln c), H') ∧ TB base H' D ln a' k' (if adE0 ln c = 0 then [c] else []) ∧ Keep base H H' := by
  obtain ⟨H1, e1, n1, g1, k1⟩ := one H c.cells
  obtain ⟨H2, c2, k2⟩ := F17.ok c H1
  have k12 := k1.trans (k2.weak (by omega))
  have ht2 := ht.keep k12
  have hlt := ht.lt
  have hlb := ht.lb
  have kb : Keep base H H2 := k12.weak (by omega)
  have m2 := k2.next
  have start : ∀ rv, L0 (some ⟨D, 0, none⟩) H.next 0 (!decide (mayC c)) H2 rv → Cd 18 [.pointer (some ⟨D, 0, none⟩), c.agg] H = some rv := by
    intro rv hv
    refine call ⟨_, e1, ?_⟩
    rw [if_neg (by simp)]
    exact ⟨_, _, _, _, _, rldAll g1, _, _, c2, hv⟩
  unfold adE0
  by_cases hm : mayC c
  · rw [if_neg (fun x => x hm)]
    have g2 : H2.get H.next = .row c.cells true := by rw [k2.get _ (by omega)]; exact g1
    have hf := hm.1
    have ld : ldc H2 D (0 + Int.toNat c.f * 1) = some (.int .i64 (ln.getD c.f.toNat 0)) := by
      rw [show 0 + Int.toNat c.f * 1 = c.f.toNat by omega, rldc' ht2.row]
      exact tbj (by rw [ht.len]; have := hf.1; have := hf.2; omega)
    by_cases hs : c.s ≥ ln.getD c.f.toNat 0
    · rw [if_pos hs, if_neg (by decide)]
      refine ⟨a, k, H2, start _ (L0_step ?_), ht2, kb⟩
      rw [if_neg (by simpa using hm)]
      refine ⟨_, rldc' g2 1, _, rldc' g2 0, D, 0, rfl, hf.1, by have := hf.2; omega, _, ld, ?_⟩
      rw [if_pos hs]
    · rw [if_neg hs, if_pos rfl]
      obtain ⟨H3, c3, k3⟩ := F39.ok (p := fun x => x.f = c.f ∧ x.s = c.s ∧ x.c = c.c) (g := 40) (ys := #[.pointer (some ⟨H.next, 0, none⟩)]) F40.goes (fun x X kX => F40.ok x c (by rw [kX.get _ (by omega)]; exact g2) (by have := kX.next; omega)) ht2.own.sl (by simp)
      rw [decide_eq_false (by simp)] at c3
      have ht3 := ht2.keep k3
      have m3 := k3.next
      have g3 : H3.get H.next = .row c.cells true := by rw [k3.get _ (by omega)]; exact g2
      obtain ⟨H4, c4, k4⟩ := F41.none_ a k c (.func (.func 42) #[] #[]) H3
      have ht4 := ht3.keep k4
      have m4 := k4.next
      have g4 : H4.get H.next = .row c.cells true := by rw [k4.get _ (by omega)]; exact g3
      obtain ⟨H5, e5, n5, g5, k5⟩ := one H4 c.cells
      have ht5 := ht4.keep k5
      have s5 : Sl H5 5 (some ⟨H4.next, 0, none⟩) 1 (UNK 5) c.cells := by rw [e5]; exact (Own.new (H := H4) (z := 5) (n := 1) (vs := c.cells) rfl).sl
      obtain ⟨a6, k6, H6, c6, o6, f6, i6⟩ := F43.ok ht5.own s5 (by omega) (by simp)
      have m6 := f6.next
      have r6 : H6.get D = .row (ln.map (Value.int .i64) ++ [.slice a 0 k]) true := by rw [f6.get _ (by omega) ht.ap]; exact ht5.row
      have ls : (ln.map (Value.int .i64)).length = 4 := by rw [List.length_map]; exact ht.len
      have s7 : stc H6 D 4 [.slice a6 1 k6] = some (H6.set D (.row (ln.map (Value.int .i64) ++ [.slice a6 1 k6]) true)) := by
        rw [rstc' r6 (i := 4) (by simp [ht.len])]
        congr 3
        rw [List.set_append_right _ _ (by omega), ls]; rfl
      have apD : ¬In1 a6 D := fun hh => by
        rcases i6 D hh with h | h
        · exact ht.ap h
        · omega
      refine ⟨a6, k6, _, start _ (L0_step ?_), ⟨Heap.get_set_same _ _ _, ?_, apD, ht.len, hlb, by show D < H6.next; omega⟩, ((((kb.trans (k3.weak (by omega))).trans (k4.weak (by omega))).trans (k5.weak (by omega))).trans (f6.keep (by omega) fun b _ hh => (ht5.own.lt hh).1)).trans (Keep.set _ hlb)⟩
      · rw [if_neg (by simpa using hm)]
        refine ⟨_, rldc' g2 1, _, rldc' g2 0, D, 0, rfl, hf.1, by have := hf.2; omega, _, ld, ?_⟩
        rw [if_neg hs]
        refine ⟨_, _, _, (rldc' ht2.row 4).trans (tb4 ht.len), _, _, c3, ?_⟩
        rw [if_neg (by simp)]
        refine ⟨_, _, _, (rldc' ht3.row 4).trans (tb4 ht.len), ?_⟩
        rw [if_neg (by simp)]
        exact ⟨_, _, _, (rldc' ht3.row 4).trans (tb4 ht.len), _, _, _, _, _, rldAll g3, _, _, _, c4, _, _, _, (rldc' ht4.row 4).trans (tb4 ht.len), _, _, _, _, _, rldAll g4, _, e5, _, _, _, _, c6, _, s7, (rldc' ht5.row 4).trans (tb4 ht.len), rfl⟩
      · have := o6.chg (chgSet' (p := D) (.row (ln.map (Value.int .i64) ++ [.slice a6 1 k6]) true)) fun b hb hh => apD ((show b = D from hh) ▸ hb)
        simpa using this
  · rw [if_pos hm, if_neg (by decide)]
    refine ⟨a, k, H2, start _ (L0_step ?_), ht2, kb⟩
    rw [if_pos (by simpa using hm)]
end F18
/-- What is active now. -/
def act (ln : List Int) (asn : Int) (l : List C5) : List C5 := if asn < 0 ∨ asn ≥ 1099511627776 then [] else l.filter fun c => decide (c.s = Int.tmod asn (ln.getD c.f.toNat 0))
theorem filter_snoc (p : C5 → Bool) (c : C5) (l : List C5) : (c :: l).filter p = if p c then c :: l.filter p else l.filter p := List.filter_cons ..
namespace F21
theorem l1 {base : Nat} {G : Heap} {D : Nat} {ln : List Int} {a : Option Addr} {k : Nat} {l : List C5} {asn : Int} (ht : TB base G D ln a k l) (hl : l.length ≤ 1000) (ti : ∀ c ∈ l, inP c.f 0 3 ∧ ln.getD c.f.toNat 0 ≠ 0) : ∀ (rest : List C5) (j : Nat) (x : Option Addr) (k' : Nat) (out : List C5) (H : Heap), l.drop j = rest → j + rest.length = l.length → out.length ≤ j → Keep G.next G H → Own G.next H 5 x out.length k' (out.flatMap C5.cells) →
    ∃ x' k'' H', L1 D 0 asn x out.length k' a l.length k (l.length : Int) (j : Int) H (.slice x' (out ++ rest.filter fun c => decide (c.s = Int.tmod asn (ln.getD c.f.toNat 0))).length k'', H') ∧ Cells H' x' (out ++ rest.filter fun c => decide (c.s = Int.tmod asn (ln.getD c.f.toNat 0))).length k'' (out ++ rest.filter fun c => decide (c.s = Int.tmod asn (ln.getD c.f.toNat 0))) ∧ Keep G.next G H' := by
  intro rest
  induction rest with
  | nil =>
    intro j x k' out H hd hj ho hk hown
    simp only [List.length_nil] at hj
    refine ⟨x, k', H, L1_step ?_, by simpa using hown.sl, hk⟩
    rw [if_neg (by omega)]
    simp
  | cons c rest ih =>
    intro j x k' out H hd hj ho hk hown
    simp only [List.length_cons] at hj
    have hs : Cells G a l.length k l := ht.own.sl
    obtain ⟨b, o, rfl⟩ := hs.at (by omega)
    have hx := drop_get hd
    have ra := (hs.keep hk).recs C5.z hx
    obtain ⟨H2, s2, g2, k2, n2⟩ := fill H c50.cells c.cells rfl
    have hk2 := hk.th k2
    obtain ⟨t1, t2⟩ := ti c (List.mem_of_getElem? hx)
    have ht2 := ht.keep hk2
    have hmn := hk.next
    have ld : ldc H2 D (0 + Int.toNat c.f * 1) = some (.int .i64 (ln.getD c.f.toNat 0)) := by
      rw [show 0 + Int.toNat c.f * 1 = c.f.toNat by omega, rldc' ht2.row]
      exact tbj (by rw [ht.len]; have := t1.1; have := t1.2; omega)
    have ei : IntKind.wrap .i64 ((j : Int) + 1) = ((j + 1 : Nat) : Int) := by rw [i64 (by omega) (by omega)]; omega
    by_cases e : c.s = Int.tmod asn (ln.getD c.f.toNat 0)
    · obtain ⟨H3, e3, n3, g3, k3⟩ := one H2 c.cells
      have s3 : Sl H3 5 (some ⟨H2.next, 0, none⟩) 1 (UNK 5) c.cells := by rw [e3]; exact (Own.new (H := H2) (z := 5) (n := 1) (vs := c.cells) rfl).sl
      have hk3 := hk2.th k3
      have m3 := hk3.next
      obtain ⟨x4, k4, H4, c4, o4, f4, i4⟩ := Own.append' (by_ := 40) ((hown.keep k2).keep k3) s3 (by decide) m3 (by omega) (by omega)
      have hk4 : Keep G.next G H4 := hk3.trans (f4.keep m3 fun b _ hh => (((hown.keep k2).keep k3).lt hh).1)
      have ef : (out ++ [c]).flatMap C5.cells = out.flatMap C5.cells ++ c.cells := by simp
      have el : (out ++ [c]).length = out.length + 1 := by simp
      obtain ⟨x', k'', H', z, q1, q2⟩ := ih (j + 1) x4 k4 (out ++ [c]) H4 (drop_next hd) (by omega) (by omega) hk4 (by rw [ef, el]; exact o4)
      have ew : (out ++ [c]) ++ rest.filter (fun c => decide (c.s = Int.tmod asn (ln.getD c.f.toNat 0))) = out ++ (c :: rest).filter fun c => decide (c.s = Int.tmod asn (ln.getD c.f.toNat 0)) := by
        rw [filter_snoc, if_pos (decide_eq_true e)]; simp
      rw [ew] at z q1
      refine ⟨x', k'', H', L1_step ?_, q1, q2⟩
      rw [if_pos (by omega), ei]
      refine ⟨b, o, rfl, by omega, by omega, _, _, _, _, _, ra, _, rfl, H2, s2, _, rldc' g2 1, _, rldc' g2 0, t1.1, by have := t1.2; omega, _, ld, t2, ?_⟩
      rw [if_pos e]
      rw [el] at z
      exact ⟨_, _, _, _, _, rldAll g2, _, e3, _, _, _, _, c4, z⟩
    · obtain ⟨x', k'', H', z, q1, q2⟩ := ih (j + 1) x k' out H2 (drop_next hd) (by omega) (by omega) hk2 (hown.keep k2)
      have ew : rest.filter (fun c => decide (c.s = Int.tmod asn (ln.getD c.f.toNat 0))) = (c :: rest).filter fun c => decide (c.s = Int.tmod asn (ln.getD c.f.toNat 0)) := by
        rw [filter_snoc, if_neg (by simpa using e)]
      rw [ew] at z q1
      refine ⟨x', k'', H', L1_step ?_, q1, q2⟩
      rw [if_pos (by omega), ei]
      refine ⟨b, o, rfl, by omega, by omega, _, _, _, _, _, ra, _, rfl, H2, s2, _, rldc' g2 1, _, rldc' g2 0, t1.1, by have := t1.2; omega, _, ld, t2, ?_⟩
      rw [if_neg e]
      exact z
theorem ok {base : Nat} {H : Heap} {D : Nat} {ln : List Int} {a : Option Addr} {k : Nat} {l : List C5} (ht : TB base H D ln a k l) (hl : l.length ≤ 1000) (ti : ∀ c ∈ l, inP c.f 0 3 ∧ ln.getD c.f.toNat 0 ≠ 0) (asn : Int) :
    ∃ x k' H', Cd 21 [.pointer (some ⟨D, 0, none⟩), .int .i64 asn] H = some (.slice x (act ln asn l).length k', H') ∧ Cells H' x (act ln asn l).length k' (act ln asn l) ∧ Keep H.next H H' := by
  have none_ : L0 (some ⟨D, 0, none⟩) asn true H (.slice none 0 0, H) := L0_step (by rw [if_pos rfl])
  unfold act
  by_cases h : asn < 0 ∨ asn ≥ 1099511627776
  · rw [if_pos h]
    refine ⟨none, 0, H, call ?_, ⟨rfl, .inl ⟨rfl, rfl, rfl⟩⟩, Keep.refl _ _⟩
    rw [if_neg (by simp)]
    by_cases h0 : asn < 0
    · rw [if_pos h0]; exact none_
    · rw [if_neg h0, decide_eq_true (by omega)]; exact none_
  · rw [if_neg h]
    obtain ⟨x, k', H', z, q1, q2⟩ := l1 (asn := asn) ht hl ti l 0 none 0 [] H rfl (by omega) (by simp) (Keep.refl _ _) ⟨rfl, .inl ⟨rfl, rfl, rfl⟩⟩
    rw [List.nil_append] at z q1
    refine ⟨x, k', H', call ?_, q1, q2⟩
    rw [if_neg (by simp), if_neg (by omega), decide_eq_false (by omega)]
    refine L0_step ?_
    rw [if_neg (by decide)]
    exact ⟨D, 0, rfl, _, _, _, (rldc' ht.row 4).trans (tb4 ht.len), z⟩
theorem nil (asn : Int) (H : Heap) : Cd 21 [.pointer none, .int .i64 asn] H = some (.slice none 0 0, H) := by
  refine call ?_
  rw [if_pos (by simp)]
  refine L0_step ?_
  rw [if_pos rfl]
end F21
namespace F24
theorem ok {base : Nat} {H : Heap} {D : Nat} {ln : List Int} {a : Option Addr} {k : Nat} {l : List C5} (ht : TB base H D ln a k l) (h : Int) : Cd 24 [.pointer (some ⟨D, 0, none⟩), .int .i64 h] H = some (.int .i64 (if inP h 0 3 then ln.getD h.toNat 0 else 0), H) := by
  refine call ?_
  rw [if_neg (by simp)]
  refine ⟨_, _, F38.ok _ _ _ _, L0_step ?_⟩
  by_cases c : inP h 0 3
  · rw [if_neg (by simpa using c), if_pos c]
    refine ⟨D, 0, rfl, c.1, by have := c.2; omega, _, ?_, rfl⟩
    rw [show 0 + Int.toNat h * 1 = h.toNat by omega, rldc' ht.row]
    exact tbj (by rw [ht.len]; have := c.1; have := c.2; omega)
  · rw [if_pos (by simpa using c), if_neg c]
theorem nil (h : Int) (H : Heap) : Cd 24 [.pointer none, .int .i64 h] H = some (.int .i64 0, H) := by
  refine call ?_
  rw [if_pos (by simp)]
  refine L0_step ?_
  rw [if_pos rfl]
end F24
namespace F25
theorem ok {base : Nat} {H : Heap} {D : Nat} {ln : List Int} {a : Option Addr} {k : Nat} {l : List C5} (ht : TB base H D ln a k l) (hl : l.length ≤ 1000) : ∃ a' k' H', Cd 25 [.pointer (some ⟨D, 0, none⟩)] H = some (.slice a' l.length k', H') ∧ Own H.next H' 5 a' l.length k' (l.flatMap C5.cells) ∧ Keep H.next H H' := by
  obtain ⟨a', k', H', c, o, kk⟩ := F33.ok (l := l) ht.own.sl (by omega)
  refine ⟨a', k', H', call ?_, o, kk⟩
  rw [if_neg (by simp)]
  exact ⟨D, 0, rfl, _, _, _, (rldc' ht.row 4).trans (tb4 ht.len), _, _, _, _, c, rfl⟩
theorem nil (H : Heap) : Cd 25 [.pointer none] H = some (.slice none 0 0, H) := by
  refine call ?_
  rw [if_pos (by simp)]
end F25
namespace F19
theorem ok (H : Heap) : ∃ H', Cd 19 [] H = some (.bool true, H') ∧ Keep H.next H H' := by
  obtain ⟨H1, c1, t1, k1, n1⟩ := F16.ok H
  obtain ⟨H2, c2, t2, k2, _⟩ := F20.ok t1 (by simp) 0 5
  have e2 : frE [] 0 5 = 0 := by unfold frE; rw [if_neg (fun c => c ⟨by decide, by decide⟩), if_neg (by simp)]
  rw [e2] at c2 t2
  rw [if_pos rfl] at t2
  obtain ⟨a3, k3', H3, c3, t3, k3⟩ := F18.first t2 ⟨0, 2, 0, 1, 3⟩
  have e3 : adE0 (([0, 0, 0, 0] : List Int).set (0 : Int).toNat 5) ⟨0, 2, 0, 1, 3⟩ = 0 := by decide +kernel
  rw [e3] at c3 t3
  rw [if_pos rfl] at t3
  have ti : ∀ c ∈ ([⟨0, 2, 0, 1, 3⟩] : List C5), inP c.f 0 3 ∧ (([0, 0, 0, 0] : List Int).set (0 : Int).toNat 5).getD c.f.toNat 0 ≠ 0 := fun c hc => by
    rw [List.mem_singleton.1 hc]; decide
  obtain ⟨x4, k4', H4, c4, s4, k4⟩ := F21.ok t3 (by simp) ti 7
  have e4 : act (([0, 0, 0, 0] : List Int).set (0 : Int).toNat 5) 7 [⟨0, 2, 0, 1, 3⟩] = [⟨0, 2, 0, 1, 3⟩] := by decide +kernel
  rw [e4] at c4 s4
  obtain ⟨x5, k5', H5, c5, s5, k5⟩ := F21.ok (t3.keep k4) (by simp) ti 8
  have e5 : act (([0, 0, 0, 0] : List Int).set (0 : Int).toNat 5) 8 [⟨0, 2, 0, 1, 3⟩] = [] := by decide +kernel
  rw [e5] at c5 s5
  obtain ⟨b4, o4, rfl⟩ := s4.at (by simp)
  have ld := s4.seg.ldc (i := 4) (v := .int .i64 3) rfl
  have m1 := k1.next
  have m2 := k2.next
  have m3 := k3.next
  have m4 := k4.next
  refine ⟨H5, call ⟨_, _, c1, _, _, c2, _, _, c3, _, _, _, _, c4, ?_⟩, (((k1.trans k2).trans k3).trans (k4.weak (by omega))).trans (k5.weak (by omega))⟩
  rw [if_pos rfl, if_pos rfl, if_pos (by simp)]
  refine ⟨b4, o4, rfl, by omega, by simp, _, ld, ?_⟩
  rw [if_pos rfl]
  exact ⟨_, _, _, _, c5, rfl⟩
end F19
def below (c x : C5) : Bool := decide (cmpC x c < 0)
def pos (c : C5) (l : List C5) : Nat := (l.takeWhile (below c)).length
def insC (c : C5) (l : List C5) : List C5 := l.take (pos c l) ++ c :: l.drop (pos c l)
def SL (l : List C5) : Prop := l.Pairwise fun x y => cmpC x y < 0
theorem tw_len {p : C5 → Bool} : ∀ {l : List C5} {i : Nat}, i ≤ l.length → (∀ q x, q < i → l[q]? = some x → p x = true) → (∀ x, l[i]? = some x → p x = false) → (l.takeWhile p).length = i
  | [], i, hi, _, _ => by simp at hi; subst hi; rfl
  | c :: l, 0, hi, _, h2 => by rw [List.takeWhile_cons, if_neg (by rw [h2 c rfl]; decide)]; rfl
  | c :: l, i + 1, hi, h1, h2 => by
    rw [List.takeWhile_cons, if_pos (h1 0 c (by omega) rfl), List.length_cons]
    rw [tw_len (l := l) (i := i) (by simpa using hi) (fun q x hq hx => h1 (q + 1) x (by omega) (by simpa using hx)) (fun x hx => h2 x (by simpa using hx))]
theorem pos_le (c : C5) (l : List C5) : pos c l ≤ l.length := by
  unfold pos
  have h := congrArg List.length (List.takeWhile_append_dropWhile (p := below c) (l := l))
  rw [List.length_append] at h; omega
theorem SL.get {l : List C5} (h : SL l) {p q : Nat} {x y : C5} (hp : l[p]? = some x) (hq : l[q]? = some y) (hpq : p < q) : cmpC x y < 0 := by
  obtain ⟨p1, rfl⟩ := List.getElem?_eq_some_iff.1 hp
  obtain ⟨q1, rfl⟩ := List.getElem?_eq_some_iff.1 hq
  exact List.pairwise_iff_getElem.1 h p q p1 q1 hpq
theorem half {x : Nat} (hx : x < 4611686018427387904) : IntKind.wrap .i64 (ishr .u64 (IntKind.wrap .u64 (IntKind.wrap .i64 (x : Int))) 1) = ((x / 2 : Nat) : Int) := by
  have a1 : IntKind.wrap .i64 (x : Int) = (x : Int) := i64 (by omega) (by omega)
  have a2 : IntKind.wrap .u64 (x : Int) = (x : Int) := u64 (by omega) (by omega)
  have a3 : IntKind.wrap .i64 ((x / 2 : Nat) : Int) = ((x / 2 : Nat) : Int) := i64 (by omega) (by omega)
  have e : (x : Int) = nb (BitVec.ofNat 64 x) := by show _ = (((BitVec.ofNat 64 x).toNat : Nat) : Int); rw [BitVec.toNat_ofNat, Nat.mod_eq_of_lt (by omega)]
  have e2 : ishr .u64 (nb (BitVec.ofNat 64 x)) ((1 : Nat) : Int) = nb (BitVec.ofNat 64 x >>> 1) := ishr_nb (k := .u64) (BitVec.ofNat 64 x) 1 (by decide)
  have e3 : nb (BitVec.ofNat 64 x >>> 1) = ((x / 2 : Nat) : Int) := by
    rw [nb, BitVec.toNat_ushiftRight, Nat.shiftRight_eq_div_pow, BitVec.toNat_ofNat, Nat.mod_eq_of_lt (by omega)]
  rw [a1, a2, e, show (1 : Int) = ((1 : Nat) : Int) from rfl, e2, e3, a3]
theorem goes42 : fnGoes Try.prog 42 = true := by kernel_rfl
namespace F41
theorem l0 {G : Heap} {a : Option Addr} {n k P : Nat} {l : List C5} {c : C5} (hs : Cells G a n k l) (hl : l.length = n) (hn : n ≤ 1000) (sl : SL l) (g : G.get P = .row c.cells true) (hP : P < G.next) : ∀ (r i j : Nat) (H : Heap), j - i ≤ r → i ≤ j → j ≤ n → (∀ q x, q < i → l[q]? = some x → below c x = true) → (∀ x, l[j]? = some x → below c x = false) → Keep G.next G H →
    ∃ t H', L0 a n k (.func (.func 42) #[] #[]) P 0 (n : Int) (i : Int) (j : Int) H (.tuple #[.int .i64 ((pos c l : Nat) : Int), .bool t], H') ∧ Keep G.next G H' := by
  intro r
  induction r with
  | zero =>
    intro i j H hr hij hj h1 h2 hk
    obtain rfl : i = j := by omega
    have hp : pos c l = i := tw_len (by omega) h1 h2
    rw [hp]
    by_cases hin : i < n
    · obtain ⟨b, o, rfl⟩ := hs.at (by omega)
      obtain ⟨x, hx⟩ : ∃ x, l[i]? = some x := ⟨_, List.getElem?_eq_getElem (by omega)⟩
      have ra := (hs.keep hk).recs C5.z hx
      obtain ⟨H1, c1, k1⟩ := F42.ok x c H
      have gP : H.get P = .row c.cells true := by rw [hk.get _ hP]; exact g
      refine ⟨cmpC x c == 0, H1, L0_step ?_, hk.th k1⟩
      rw [if_neg (by omega), if_pos (by omega)]
      exact ⟨b, o, rfl, by omega, by omega, _, _, _, _, _, ra, _, _, _, _, _, rldAll gP, 42, #[], #[], rfl, goes42, _, _, by simpa using c1, rfl⟩
    · refine ⟨false, H, L0_step ?_, hk⟩
      rw [if_neg (by omega), if_neg (by omega)]
  | succ r ih =>
    intro i j H hr hij hj h1 h2 hk
    by_cases hlt : i < j
    · have eij : (i : Int) + (j : Int) = ((i + j : Nat) : Int) := by omega
      have hm := half (x := i + j) (by omega)
      obtain ⟨b, o, rfl⟩ := hs.at (by omega)
      obtain ⟨x, hx⟩ : ∃ x, l[(i + j) / 2]? = some x := ⟨_, List.getElem?_eq_getElem (by omega)⟩
      have ra := (hs.keep hk).recs C5.z hx
      obtain ⟨H1, c1, k1⟩ := F42.ok x c H
      have gP : H.get P = .row c.cells true := by rw [hk.get _ hP]; exact g
      by_cases hb : cmpC x c < 0
      · obtain ⟨t, H', z, q⟩ := ih ((i + j) / 2 + 1) j H1 (by omega) (by omega) hj (fun q y hq hy => by
          by_cases hqe : q = (i + j) / 2
          · rw [hqe, hx] at hy; cases hy; exact decide_eq_true hb
          · exact decide_eq_true (lx_trans (sl.get hy hx (by omega)) hb)) h2 (hk.th k1)
        refine ⟨t, H', L0_step ?_, q⟩
        rw [if_pos (by omega), eij, hm]
        refine ⟨b, o, rfl, by omega, by omega, _, _, _, _, _, ra, _, _, _, _, _, rldAll gP, 42, #[], #[], rfl, goes42, _, _, by simpa using c1, ?_⟩
        rw [if_pos hb, i64 (by omega) (by omega)]
        exact_mod_cast z
      · obtain ⟨t, H', z, q⟩ := ih i ((i + j) / 2) H1 (by omega) (by omega) (by omega) h1 (fun y hy => by rw [hx] at hy; cases hy; exact decide_eq_false hb) (hk.th k1)
        refine ⟨t, H', L0_step ?_, q⟩
        rw [if_pos (by omega), eij, hm]
        refine ⟨b, o, rfl, by omega, by omega, _, _, _, _, _, ra, _, _, _, _, _, rldAll gP, 42, #[], #[], rfl, goes42, _, _, by simpa using c1, ?_⟩
        rw [if_neg hb]
        exact z
    · exact ih i j H (by omega) hij hj h1 h2 hk
theorem ok {H : Heap} {a : Option Addr} {n k : Nat} {l : List C5} (hs : Cells H a n k l) (hl : l.length = n) (hn : n ≤ 1000) (sl : SL l) (c : C5) : ∃ t H', Cd 41 [.slice a n k, c.agg, .func (.func 42) #[] #[]] H = some (.tuple #[.int .i64 ((pos c l : Nat) : Int), .bool t], H') ∧ Keep H.next H H' := by
  obtain ⟨H1, e1, n1, g1, k1⟩ := one H c.cells
  obtain ⟨t, H', z, q⟩ := l0 (hs.keep k1) hl hn sl g1 (by omega) n 0 n H1 (by omega) (by omega) (Nat.le_refl _) (fun q x hq => by omega) (fun x hx => by rw [List.getElem?_eq_none (by omega)] at hx; cases hx) (Keep.refl _ _)
  exact ⟨t, H', call ⟨_, e1, z⟩, k1.th q⟩
end F41
theorem flat_take {α : Type} {f : α → List Value} {z : Nat} (hz : ∀ x, (f x).length = z) : ∀ (l : List α) (i : Nat), (l.flatMap f).take (i * z) = (l.take i).flatMap f ∧ (l.flatMap f).drop (i * z) = (l.drop i).flatMap f
  | [], i => by simp
  | x :: l, 0 => by simp
  | x :: l, i + 1 => by
    obtain ⟨a, b⟩ := flat_take hz l i
    have e : (i + 1) * z = (f x).length + i * z := by rw [hz, Nat.add_mul]; omega
    rw [e, List.flatMap_cons, List.take_length_add_append, List.drop_length_add_append, a, b]
    simp
/-- What a cell that is added is answered. -/
def adE (ln : List Int) (l : List C5) (c : C5) : Int := if ¬mayC c then 1 else if c.s ≥ ln.getD c.f.toNat 0 then 6 else if ∃ x ∈ l, x.f = c.f ∧ x.s = c.s ∧ x.c = c.c then 9 else if 64 ≤ l.length then 5 else 0
namespace F18
theorem ok {base : Nat} {H : Heap} {D : Nat} {ln : List Int} {a : Option Addr} {k : Nat} {l : List C5} (ht : TB base H D ln a k l) (hl : l.length ≤ 64) (sl : SL l) (c : C5) :
    ∃ a' k' H', Cd 18 [.pointer (some ⟨D, 0, none⟩), c.agg] H = some (.int .i64 (adE ln l c), H') ∧ TB base H' D ln a' k' (if adE ln l c = 0 then insC c l else l) ∧ Keep base H H' ∧ Chg (fun b => b = D ∨ In1 a b) H H' ∧ ∀ b, In1 a' b → In1 a b ∨ H.next ≤ b := by
  obtain ⟨H1, e1, n1, g1, k1⟩ := one H c.cells
  obtain ⟨H2, c2, k2⟩ := F17.ok c H1
  have k12 := k1.trans (k2.weak (by omega))
  have ht2 := ht.keep k12
  have hlt := ht.lt
  have hlb := ht.lb
  have kb : Keep base H H2 := k12.weak (by omega)
  have m2 := k2.next
  have start : ∀ rv, L0 (some ⟨D, 0, none⟩) H.next 0 (!decide (mayC c)) H2 rv → Cd 18 [.pointer (some ⟨D, 0, none⟩), c.agg] H = some rv := by
    intro rv hv
    refine call ⟨_, e1, ?_⟩
    rw [if_neg (by simp)]
    exact ⟨_, _, _, _, _, rldAll g1, _, _, c2, hv⟩
  unfold adE
  by_cases hm : mayC c
  · rw [if_neg (fun x => x hm)]
    have g2 : H2.get H.next = .row c.cells true := by rw [k2.get _ (by omega)]; exact g1
    have hf := hm.1
    have ld : ldc H2 D (0 + Int.toNat c.f * 1) = some (.int .i64 (ln.getD c.f.toNat 0)) := by
      rw [show 0 + Int.toNat c.f * 1 = c.f.toNat by omega, rldc' ht2.row]
      exact tbj (by rw [ht.len]; have := hf.1; have := hf.2; omega)
    by_cases hs : c.s ≥ ln.getD c.f.toNat 0
    · rw [if_pos hs, if_neg (by decide)]
      refine ⟨a, k, H2, start _ (L0_step ?_), ht2, kb, k12.chg0, fun b hb => .inl hb⟩
      rw [if_neg (by simpa using hm)]
      refine ⟨_, rldc' g2 1, _, rldc' g2 0, D, 0, rfl, hf.1, by have := hf.2; omega, _, ld, ?_⟩
      rw [if_pos hs]
    · rw [if_neg hs]
      obtain ⟨H3, c3, k3⟩ := F39.ok (p := fun x => x.f = c.f ∧ x.s = c.s ∧ x.c = c.c) (g := 40) (ys := #[.pointer (some ⟨H.next, 0, none⟩)]) F40.goes (fun x X kX => F40.ok x c (by rw [kX.get _ (by omega)]; exact g2) (by have := kX.next; omega)) ht2.own.sl (by omega)
      have ht3 := ht2.keep k3
      have m3 := k3.next
      have g3 : H3.get H.next = .row c.cells true := by rw [k3.get _ (by omega)]; exact g2
      have kb3 : Keep base H H3 := kb.trans (k3.weak (by omega))
      by_cases hcl : ∃ x ∈ l, x.f = c.f ∧ x.s = c.s ∧ x.c = c.c
      · rw [if_pos hcl, if_neg (by decide)]
        rw [decide_eq_true hcl] at c3
        refine ⟨a, k, H3, start _ (L0_step ?_), ht3, kb3, (k12.th k3).chg0, fun b hb => .inl hb⟩
        rw [if_neg (by simpa using hm)]
        refine ⟨_, rldc' g2 1, _, rldc' g2 0, D, 0, rfl, hf.1, by have := hf.2; omega, _, ld, ?_⟩
        rw [if_neg hs]
        refine ⟨_, _, _, (rldc' ht2.row 4).trans (tb4 ht.len), _, _, c3, ?_⟩
        rw [if_pos rfl]
      · rw [if_neg hcl]
        rw [decide_eq_false hcl] at c3
        by_cases hfu : 64 ≤ l.length
        · rw [if_pos hfu, if_neg (by decide)]
          refine ⟨a, k, H3, start _ (L0_step ?_), ht3, kb3, (k12.th k3).chg0, fun b hb => .inl hb⟩
          rw [if_neg (by simpa using hm)]
          refine ⟨_, rldc' g2 1, _, rldc' g2 0, D, 0, rfl, hf.1, by have := hf.2; omega, _, ld, ?_⟩
          rw [if_neg hs]
          refine ⟨_, _, _, (rldc' ht2.row 4).trans (tb4 ht.len), _, _, c3, ?_⟩
          rw [if_neg (by simp)]
          refine ⟨_, _, _, (rldc' ht3.row 4).trans (tb4 ht.len), ?_⟩
          rw [if_pos (by omega)]
        · rw [if_neg hfu, if_pos rfl]
          obtain ⟨t4, H4, c4, k4⟩ := F41.ok ht3.own.sl rfl (by omega) sl c
          have ht4 := ht3.keep k4
          have m4 := k4.next
          have g4 : H4.get H.next = .row c.cells true := by rw [k4.get _ (by omega)]; exact g3
          obtain ⟨H5, e5, n5, g5, k5⟩ := one H4 c.cells
          have ht5 := ht4.keep k5
          have s5 : Own H4.next H5 5 (some ⟨H4.next, 0, none⟩) 1 (UNK 5) c.cells := by rw [e5]; exact Own.new (H := H4) (z := 5) (n := 1) (vs := c.cells) rfl
          have hpl := pos_le c l
          obtain ⟨a6, k6, H6, c6, o6, f6, i6⟩ := F43.any ht5.own s5 (fun hh => by have := (ht4.own.lt hh).2; omega) (by omega) hpl (by omega)
          have m6 := f6.next
          have r6 : H6.get D = .row (ln.map (Value.int .i64) ++ [.slice a l.length k]) true := by rw [f6.get _ (by omega) ht.ap]; exact ht5.row
          have ls : (ln.map (Value.int .i64)).length = 4 := by rw [List.length_map]; exact ht.len
          have s7 : stc H6 D 4 [.slice a6 (l.length + 1) k6] = some (H6.set D (.row (ln.map (Value.int .i64) ++ [.slice a6 (l.length + 1) k6]) true)) := by
            rw [rstc' r6 (i := 4) (by simp [ht.len])]
            congr 3
            rw [List.set_append_right _ _ (by omega), ls]; rfl
          have apD : ¬In1 a6 D := fun hh => by
            rcases i6 D hh with h | h
            · exact ht.ap h
            · omega
          have el : (insC c l).length = l.length + 1 := by
            unfold insC; rw [List.length_append, List.length_cons, List.length_take, List.length_drop]; omega
          have ev : (insC c l).flatMap C5.cells = (l.flatMap C5.cells).take (pos c l * 5) ++ c.cells ++ (l.flatMap C5.cells).drop (pos c l * 5) := by
            obtain ⟨f1, f2⟩ := flat_take C5.z l (pos c l)
            rw [f1, f2]; unfold insC; rw [List.flatMap_append, List.flatMap_cons, List.append_assoc]
          refine ⟨a6, k6, _, start _ (L0_step ?_), ⟨by rw [el]; exact Heap.get_set_same _ _ _, ?_, apD, ht.len, hlb, by show D < H6.next; omega⟩, (((kb3.trans (k4.weak (by omega))).trans (k5.weak (by omega))).trans (f6.keep (by omega) fun b _ hh => (ht5.own.lt hh).1)).trans (Keep.set _ hlb), (((((k12.th k3).th k4).th k5).chg0 (S := fun b => b = D ∨ In1 a b)).trans (f6.weak (T := fun b => b = D ∨ In1 a b) fun _ _ h => .inr h) fun _ _ h => h).trans (chgSet' _) (fun _ _ h => .inl h), fun b hb => (i6 b hb).imp_right fun h => by omega⟩
          · rw [if_neg (by simpa using hm)]
            refine ⟨_, rldc' g2 1, _, rldc' g2 0, D, 0, rfl, hf.1, by have := hf.2; omega, _, ld, ?_⟩
            rw [if_neg hs]
            refine ⟨_, _, _, (rldc' ht2.row 4).trans (tb4 ht.len), _, _, c3, ?_⟩
            rw [if_neg (by simp)]
            refine ⟨_, _, _, (rldc' ht3.row 4).trans (tb4 ht.len), ?_⟩
            rw [if_neg (by omega)]
            exact ⟨_, _, _, (rldc' ht3.row 4).trans (tb4 ht.len), _, _, _, _, _, rldAll g3, _, _, _, c4, _, _, _, (rldc' ht4.row 4).trans (tb4 ht.len), _, _, _, _, _, rldAll g4, _, e5, _, _, _, _, c6, _, s7, (rldc' ht5.row 4).trans (tb4 ht.len), rfl⟩
          · rw [el, ev]
            exact o6.chg (chgSet' (p := D) (.row (ln.map (Value.int .i64) ++ [.slice a6 (l.length + 1) k6]) true)) fun b hb hh => apD ((show b = D from hh) ▸ hb)
  · rw [if_pos hm, if_neg (by decide)]
    refine ⟨a, k, H2, start _ (L0_step ?_), ht2, kb, k12.chg0, fun b hb => .inl hb⟩
    rw [if_pos (by simpa using hm)]
end F18
theorem eqC (a b : C5) : ((a.f == b.f) && ((a.s == b.s) && ((a.c == b.c) && ((a.o == b.o) && ((a.p == b.p) && true))))) = decide (a = b) := by
  by_cases h : a = b
  · subst h; simp
  · rw [decide_eq_false h]
    cases a; cases b
    simp only [C5.mk.injEq] at h
    exact Bool.eq_false_iff.2 fun q => h (by simpa using q)
namespace F45
theorem l0 {H : Heap} {a : Option Addr} {n k P : Nat} {l : List C5} {c : C5} (hs : Cells H a n k l) (hn : n ≤ 1000) (g : H.get P = .row c.cells true) : ∀ (rest : List C5) (j : Nat), l.drop j = rest → j + rest.length = n → L0 a n k P 0 (n : Int) (j : Int) H (.int .i64 (if fx (fun x => c = x) rest < 0 then -1 else j + fx (fun x => c = x) rest), H) := by
  intro rest
  induction rest with
  | nil =>
    intro j hd hj
    simp only [List.length_nil] at hj
    refine L0_step ?_
    rw [if_neg (by omega)]; rfl
  | cons x rest ih =>
    intro j hd hj
    simp only [List.length_cons] at hj
    obtain ⟨b, o, rfl⟩ := hs.at (by omega)
    have hx := drop_get hd
    have ra := hs.recs C5.z hx
    have hbl := fx_le (fun x => c = x) rest
    refine L0_step ?_
    rw [if_pos (by omega)]
    refine ⟨_, _, _, _, _, rldAll g, b, o, rfl, by omega, by omega, _, _, _, _, _, ra, ?_⟩
    rw [eqC]
    by_cases e : c = x
    · rw [if_pos (decide_eq_true e)]
      have e1 : fx (fun x => c = x) (x :: rest) = 0 := by unfold fx; rw [if_pos e]
      rw [e1, if_neg (by omega), Int.add_zero]
    · rw [if_neg (by simpa using e), i64 (by omega) (by omega)]
      have : (if fx (fun x => c = x) (x :: rest) < 0 then (-1 : Int) else j + fx (fun x => c = x) (x :: rest)) = if fx (fun x => c = x) rest < 0 then -1 else ((j + 1 : Nat) : Int) + fx (fun x => c = x) rest := by
        have e1 : fx (fun x => c = x) (x :: rest) = if fx (fun x => c = x) rest < 0 then -1 else fx (fun x => c = x) rest + 1 := by conv => lhs; unfold fx; rw [if_neg e]
        rw [e1]
        by_cases h : fx (fun x => c = x) rest < 0
        · rw [if_pos h, if_pos h, if_pos (by omega)]
        · rw [if_neg h, if_neg h, if_neg (by omega)]; omega
      rw [this]
      exact_mod_cast ih (j + 1) (drop_next hd) (by omega)
theorem ok {H : Heap} {a : Option Addr} {n k : Nat} {l : List C5} (hs : Cells H a n k l) (hn : n ≤ 1000) (c : C5) : ∃ H', Cd 45 [.slice a n k, c.agg] H = some (.int .i64 (fx (fun x => c = x) l), H') ∧ Keep H.next H H' := by
  obtain ⟨H1, e1, n1, g1, k1⟩ := one H c.cells
  have hl := hs.cnt C5.z (by decide)
  have z := l0 (hs.keep k1) hn g1 l 0 rfl (by omega)
  have h2 := fx_le (fun x => c = x) l
  have e : (if fx (fun x => c = x) l < 0 then (-1 : Int) else ((0 : Nat) : Int) + fx (fun x => c = x) l) = fx (fun x => c = x) l := by split <;> omega
  rw [e] at z
  exact ⟨H1, call ⟨_, e1, z⟩, k1⟩
end F45
/-- A cell is taken out. -/
def remC (c : C5) (l : List C5) : List C5 := if fx (fun x => c = x) l < 0 then l else l.take (fx (fun x => c = x) l).toNat ++ l.drop ((fx (fun x => c = x) l).toNat + 1)
namespace F26
theorem ok {base : Nat} {H : Heap} {D : Nat} {ln : List Int} {a : Option Addr} {k : Nat} {l : List C5} (ht : TB base H D ln a k l) (hl : l.length ≤ 64) (c : C5) :
    ∃ a' k' H', Cd 26 [.pointer (some ⟨D, 0, none⟩), c.agg] H = some (.int .i64 (if fx (fun x => c = x) l < 0 then 6 else 0), H') ∧ TB base H' D ln a' k' (remC c l) ∧ Keep base H H' ∧ Chg (fun b => b = D ∨ In1 a b) H H' ∧ ∀ b, In1 a' b → In1 a b ∨ H.next ≤ b := by
  obtain ⟨H1, e1, n1, g1, k1⟩ := one H c.cells
  have ht1 := ht.keep k1
  obtain ⟨H2, c2, k2⟩ := F45.ok ht1.own.sl (by omega) c
  have ht2 := ht1.keep k2
  have hlb := ht.lb
  have hlt := ht.lt
  have m2 := k2.next
  have kb : Keep base H H2 := (k1.weak (by omega)).trans (k2.weak (by omega))
  have start : ∀ rv, (if fx (fun x => c = x) l < 0 then rv = (.int .i64 6, H2) else (∃ (t20a : Option Addr) (t20n : Nat) (t20k : Nat), ldc H2 D (0 + 4) = some (.slice t20a t20n t20k) ∧
      (∃ (t24a : Option Addr) (t24n : Nat) (t24k : Nat) (H_3 : Heap), Cd 46 [.slice t20a t20n t20k, .int .i64 (fx (fun x => c = x) l), .int .i64 (IntKind.wrap .i64 (fx (fun x => c = x) l + 1))] H2 = some (.slice t24a t24n t24k, H_3) ∧
      (∃ (H_4 : Heap), stc H_3 D (0 + 4) [.slice t24a t24n t24k] = some H_4 ∧ (rv = (.int .i64 0, H_4)))))) → Cd 26 [.pointer (some ⟨D, 0, none⟩), c.agg] H = some rv := by
    intro rv hv
    refine call ⟨_, e1, ?_⟩
    rw [if_neg (by simp)]
    exact ⟨D, 0, rfl, _, _, _, (rldc' ht1.row 4).trans (tb4 ht.len), _, _, _, _, _, rldAll g1, _, _, c2, hv⟩
  have hfl := fx_le (fun x => c = x) l
  unfold remC
  by_cases h : fx (fun x => c = x) l < 0
  · rw [if_pos h, if_pos h]
    exact ⟨a, k, H2, start _ (by rw [if_pos h]), ht2, kb, (k1.th k2).chg0, fun b hb => .inl hb⟩
  · rw [if_neg h, if_neg h]
    generalize fx (fun x => c = x) l = q at *
    obtain ⟨i, rfl⟩ : ∃ i : Nat, q = (i : Int) := ⟨q.toNat, by omega⟩
    rw [Int.toNat_natCast]
    have ei : IntKind.wrap .i64 ((i : Int) + 1) = ((i + 1 : Nat) : Int) := by rw [i64 (by omega) (by omega)]; omega
    obtain ⟨b, o, rfl⟩ := ht2.own.sl.at (by omega)
    obtain ⟨a1, n1', k1', a2, n2, k2', a3, n3, k3, H3, H4, p1, p2, p3, p4, p5, p6, own4, f4⟩ := Own.del (by_ := 40) ht2.own (by decide) [.int .i64 0, .int .i64 0, .int .i64 0, .int .i64 0, .int .i64 0] rfl (i := i) (by omega) (by omega) (by omega)
    have c46 : Cd 46 [.slice (some ⟨b, o, none⟩) l.length k, .int .i64 (i : Int), .int .i64 ((i + 1 : Nat) : Int)] H2 = some (.slice (some ⟨b, o, none⟩) (l.length - 1) k, H4) := by
      refine F46.call ⟨_, _, _, p1, ?_⟩
      rw [if_neg (by omega)]
      exact ⟨_, _, _, p2, _, _, _, p3, _, _, _, _, p4, _, _, _, p5, _, p6, rfl⟩
    have m4 := f4.next
    have r4 : H4.get D = .row (ln.map (Value.int .i64) ++ [.slice (some ⟨b, o, none⟩) l.length k]) true := by rw [f4.get _ (by omega) ht.ap]; exact ht2.row
    have ls : (ln.map (Value.int .i64)).length = 4 := by rw [List.length_map]; exact ht.len
    have s5 : stc H4 D 4 [.slice (some ⟨b, o, none⟩) (l.length - 1) k] = some (H4.set D (.row (ln.map (Value.int .i64) ++ [.slice (some ⟨b, o, none⟩) (l.length - 1) k]) true)) := by
      rw [rstc' r4 (i := 4) (by simp [ht.len])]
      congr 3
      rw [List.set_append_right _ _ (by omega), ls]; rfl
    have el : (l.take i ++ l.drop (i + 1)).length = l.length - 1 := by rw [List.length_append, List.length_take, List.length_drop]; omega
    have ev : (l.take i ++ l.drop (i + 1)).flatMap C5.cells = (l.flatMap C5.cells).take (i * 5) ++ (l.flatMap C5.cells).drop ((i + 1) * 5) := by
      rw [List.flatMap_append, (flat_take C5.z l i).1, (flat_take C5.z l (i + 1)).2]
    refine ⟨some ⟨b, o, none⟩, k, _, start _ ?_, ⟨by rw [el]; exact Heap.get_set_same _ _ _, ?_, ht.ap, ht.len, hlb, by show D < H4.next; omega⟩, (kb.trans (f4.keep (by omega) fun b' _ hh => (ht2.own.lt hh).1)).trans (Keep.set _ hlb), (((k1.th k2).chg0 (S := fun b' => b' = D ∨ In1 (some ⟨b, o, none⟩) b')).trans (f4.weak (T := fun b' => b' = D ∨ In1 (some ⟨b, o, none⟩) b') fun _ _ h => .inr h) fun _ _ h => h).trans (chgSet' _) (fun _ _ h => .inl h), fun b' hb => .inl hb⟩
    · rw [if_neg h, ei]
      exact ⟨_, _, _, (rldc' ht2.row 4).trans (tb4 ht.len), _, _, _, _, c46, _, s5, rfl⟩
    · rw [el, ev]
      exact own4.chg (chgSet' (p := D) (.row (ln.map (Value.int .i64) ++ [.slice (some ⟨b, o, none⟩) (l.length - 1) k]) true)) fun b' hb hh => ht.ap ((show b' = D from hh) ▸ hb)
end F26
namespace F48
theorem ok (x : Int) (H : Heap) : Cd 48 [.int .i64 x] H = some (.bool (decide (0 ≤ x ∧ x < 1099511627776)), H) := by
  refine call ?_
  by_cases h : x ≥ 0
  · rw [if_pos h]
    have : decide (x < 1099511627776) = decide (0 ≤ x ∧ x < 1099511627776) := decide_eq_decide.2 ⟨fun q => ⟨h, q⟩, fun q => q.2⟩
    rw [this]
  · rw [if_neg h, decide_eq_false (fun q => h q.1)]
end F48
namespace F30
theorem l0 {H : Heap} {a a' : Option Addr} {n k k' : Nat} {l m : List C5} (h0 : Cells H a n k l) (h1 : Cells H a' n k' m) (hn : n ≤ 1000000000) : ∀ (d j : Nat), j + d = n → L0 a n k a' n k' (n : Int) (j : Int) H (.bool (decide (l.drop j = m.drop j)), H) := by
  have l0 := h0.cnt C5.z (by decide)
  have l1 := h1.cnt C5.z (by decide)
  intro d
  induction d with
  | zero =>
    intro j hj
    refine L0_step ?_
    rw [if_neg (by omega), List.drop_eq_nil_of_le (by omega), List.drop_eq_nil_of_le (by omega), decide_eq_true rfl]
  | succ d ih =>
    intro j hj
    obtain ⟨b, o, rfl⟩ := h0.at (by omega)
    obtain ⟨b', o', rfl⟩ := h1.at (by omega)
    have e0 : l.drop j = l[j] :: l.drop (j + 1) := List.drop_eq_getElem_cons (by omega)
    have e1 : m.drop j = m[j] :: m.drop (j + 1) := List.drop_eq_getElem_cons (by omega)
    have ra := Sl.recs C5.z h0 (drop_get e0)
    have rb := Sl.recs C5.z h1 (drop_get e1)
    refine L0_step ?_
    rw [if_pos (by omega)]
    refine ⟨b, o, rfl, by omega, by omega, _, _, _, _, _, ra, b', o', rfl, by omega, by omega, _, _, _, _, _, rb, ?_⟩
    rw [eqC, e0, e1]
    by_cases e : l[j] = m[j]
    · rw [if_pos (decide_eq_true e), i64 (by omega) (by omega), show decide (l[j] :: l.drop (j + 1) = m[j] :: m.drop (j + 1)) = decide (l.drop (j + 1) = m.drop (j + 1)) from decide_eq_decide.2 ⟨fun h => (List.cons.inj h).2, fun h => by rw [e, h]⟩]
      exact_mod_cast ih (j + 1) (by omega)
    · rw [if_neg (by simpa using e), decide_eq_false (fun h => e (List.cons.inj h).1)]
theorem ok {H : Heap} {a a' : Option Addr} {n n' k k' : Nat} {l : List C5} (h0 : Cells H a n k l) (h1 : Cells H a' n' k' l) (hn : n ≤ 1000000000) : Cd 30 [.slice a n k, .slice a' n' k'] H = some (.bool true, H) := by
  have l0' := h0.cnt C5.z (by decide)
  have l1 := h1.cnt C5.z (by decide)
  obtain rfl : n = n' := by omega
  refine call ?_
  rw [if_pos rfl]
  have := l0 h0 h1 hn n 0 (by omega)
  simpa using this
end F30
namespace F31
theorem l0 {base : Nat} {G : Heap} {D : Nat} {ln : List Int} {a : Option Addr} {k : Nat} {l : List C5} {asn : Int} (ht : TB base G D ln a k l) (hl : l.length ≤ 1000) (ti : ∀ c ∈ l, inP c.f 0 3 ∧ ln.getD c.f.toNat 0 ≠ 0) : ∀ (rest : List C5) (j : Nat) (x : Option Addr) (k' : Nat) (out : List C5) (H : Heap), l.drop j = rest → j + rest.length = l.length → out.length ≤ j → Keep G.next G H → Own G.next H 5 x out.length k' (out.flatMap C5.cells) →
    ∃ x' k'' H', L0 D 0 asn x out.length k' a l.length k (l.length : Int) (j : Int) H (.slice x' (out ++ rest.filter fun c => decide (c.s = Int.tmod asn (ln.getD c.f.toNat 0))).length k'', H') ∧ Cells H' x' (out ++ rest.filter fun c => decide (c.s = Int.tmod asn (ln.getD c.f.toNat 0))).length k'' (out ++ rest.filter fun c => decide (c.s = Int.tmod asn (ln.getD c.f.toNat 0))) ∧ Keep G.next G H' := by
  intro rest
  induction rest with
  | nil =>
    intro j x k' out H hd hj ho hk hown
    simp only [List.length_nil] at hj
    refine ⟨x, k', H, L0_step ?_, by simpa using hown.sl, hk⟩
    rw [if_neg (by omega)]
    simp
  | cons c rest ih =>
    intro j x k' out H hd hj ho hk hown
    simp only [List.length_cons] at hj
    have hs : Cells G a l.length k l := ht.own.sl
    obtain ⟨b, o, rfl⟩ := hs.at (by omega)
    have hx := drop_get hd
    have ra := (hs.keep hk).recs C5.z hx
    obtain ⟨H2, s2, g2, k2, n2⟩ := fill H c50.cells c.cells rfl
    have hk2 := hk.th k2
    obtain ⟨t1, t2⟩ := ti c (List.mem_of_getElem? hx)
    have ht2 := ht.keep hk2
    have hmn := hk.next
    have ld : ldc H2 D (0 + Int.toNat c.f * 1) = some (.int .i64 (ln.getD c.f.toNat 0)) := by
      rw [show 0 + Int.toNat c.f * 1 = c.f.toNat by omega, rldc' ht2.row]
      exact tbj (by rw [ht.len]; have := t1.1; have := t1.2; omega)
    have ei : IntKind.wrap .i64 ((j : Int) + 1) = ((j + 1 : Nat) : Int) := by rw [i64 (by omega) (by omega)]; omega
    by_cases e : c.s = Int.tmod asn (ln.getD c.f.toNat 0)
    · obtain ⟨H3, e3, n3, g3, k3⟩ := one H2 c.cells
      have s3 : Sl H3 5 (some ⟨H2.next, 0, none⟩) 1 (UNK 5) c.cells := by rw [e3]; exact (Own.new (H := H2) (z := 5) (n := 1) (vs := c.cells) rfl).sl
      have hk3 := hk2.th k3
      have m3 := hk3.next
      obtain ⟨x4, k4, H4, c4, o4, f4, i4⟩ := Own.append' (by_ := 40) ((hown.keep k2).keep k3) s3 (by decide) m3 (by omega) (by omega)
      have hk4 : Keep G.next G H4 := hk3.trans (f4.keep m3 fun b _ hh => (((hown.keep k2).keep k3).lt hh).1)
      have ef : (out ++ [c]).flatMap C5.cells = out.flatMap C5.cells ++ c.cells := by simp
      have el : (out ++ [c]).length = out.length + 1 := by simp
      obtain ⟨x', k'', H', z, q1, q2⟩ := ih (j + 1) x4 k4 (out ++ [c]) H4 (drop_next hd) (by omega) (by omega) hk4 (by rw [ef, el]; exact o4)
      have ew : (out ++ [c]) ++ rest.filter (fun c => decide (c.s = Int.tmod asn (ln.getD c.f.toNat 0))) = out ++ (c :: rest).filter fun c => decide (c.s = Int.tmod asn (ln.getD c.f.toNat 0)) := by
        rw [filter_snoc, if_pos (decide_eq_true e)]; simp
      rw [ew] at z q1
      refine ⟨x', k'', H', L0_step ?_, q1, q2⟩
      rw [if_pos (by omega), ei]
      refine ⟨b, o, rfl, by omega, by omega, _, _, _, _, _, ra, _, rfl, H2, s2, _, rldc' g2 1, _, rldc' g2 0, t1.1, by have := t1.2; omega, _, ld, t2, ?_⟩
      rw [if_pos e]
      rw [el] at z
      exact ⟨_, _, _, _, _, rldAll g2, _, e3, _, _, _, _, c4, z⟩
    · obtain ⟨x', k'', H', z, q1, q2⟩ := ih (j + 1) x k' out H2 (drop_next hd) (by omega) (by omega) hk2 (hown.keep k2)
      have ew : rest.filter (fun c => decide (c.s = Int.tmod asn (ln.getD c.f.toNat 0))) = (c :: rest).filter fun c => decide (c.s = Int.tmod asn (ln.getD c.f.toNat 0)) := by
        rw [filter_snoc, if_neg (by simpa using e)]
      rw [ew] at z q1
      refine ⟨x', k'', H', L0_step ?_, q1, q2⟩
      rw [if_pos (by omega), ei]
      refine ⟨b, o, rfl, by omega, by omega, _, _, _, _, _, ra, _, rfl, H2, s2, _, rldc' g2 1, _, rldc' g2 0, t1.1, by have := t1.2; omega, _, ld, t2, ?_⟩
      rw [if_neg e]
      exact z
theorem ok {base : Nat} {H : Heap} {D : Nat} {ln : List Int} {a : Option Addr} {k : Nat} {l : List C5} (ht : TB base H D ln a k l) (hl : l.length ≤ 1000) (ti : ∀ c ∈ l, inP c.f 0 3 ∧ ln.getD c.f.toNat 0 ≠ 0) (asn : Int) :
    ∃ x k' H', Cd 31 [.pointer (some ⟨D, 0, none⟩), .int .i64 asn] H = some (.slice x (act ln asn l).length k', H') ∧ Cells H' x (act ln asn l).length k' (act ln asn l) ∧ Keep H.next H H' := by
  unfold act
  by_cases h : asn < 0 ∨ asn ≥ 1099511627776
  · rw [if_pos h]
    refine ⟨none, 0, H, call ⟨_, _, F48.ok _ _, ?_⟩, ⟨rfl, .inl ⟨rfl, rfl, rfl⟩⟩, Keep.refl _ _⟩
    rw [if_neg (by rw [decide_eq_true_eq]; omega)]
    rfl
  · rw [if_neg h]
    obtain ⟨x, k', H', z, q1, q2⟩ := l0 (asn := asn) ht hl ti l 0 none 0 [] H rfl (by omega) (by simp) (Keep.refl _ _) ⟨rfl, .inl ⟨rfl, rfl, rfl⟩⟩
    rw [List.nil_append] at z q1
    refine ⟨x, k', H', call ⟨_, _, F48.ok _ _, ?_⟩, q1, q2⟩
    rw [if_pos (by rw [decide_eq_true_eq]; omega)]
    exact ⟨D, 0, rfl, _, _, _, (rldc' ht.row 4).trans (tb4 ht.len), z⟩
end F31
namespace F27
theorem l1 {base : Nat} {G : Heap} {D : Nat} {ln : List Int} {a : Option Addr} {k : Nat} {l : List C5} {h n : Int} (ht : TB base G D ln a k l) (hl : l.length ≤ 1000) (h1 : inP h 0 3) : ∀ (rest : List C5) (j : Nat) (H : Heap), l.drop j = rest → j + rest.length = l.length → Keep G.next G H →
    ∃ H1, L1 D 0 h n a l.length k (l.length : Int) (j : Int) H (if ∃ c ∈ rest, c.f = h ∧ c.s ≥ n then (.int .i64 9, H1) else (.int .i64 0, H1.set D (.row ((ln.set h.toNat n).map (Value.int .i64) ++ [.slice a l.length k]) true))) ∧ Keep G.next G H1 := by
  intro rest
  induction rest with
  | nil =>
    intro j H hd hj hk
    simp only [List.length_nil] at hj
    have ht' := ht.keep hk
    have hj : h.toNat < ln.length := by rw [ht.len]; have := h1.1; have := h1.2; omega
    have s4 : stc H D (0 + Int.toNat h * 1) [.int .i64 n] = some (H.set D (.row ((ln.set h.toNat n).map (Value.int .i64) ++ [.slice a l.length k]) true)) := by
      rw [show 0 + Int.toNat h * 1 = h.toNat by omega, rstc' ht'.row (i := h.toNat) (by simp; omega)]
      congr 3
      rw [List.set_append_left _ _ (by simpa using hj), List.map_set]
    refine ⟨H, L1_step ?_, hk⟩
    rw [if_neg (by omega), if_neg (by simp)]
    exact ⟨h1.1, by have := h1.2; omega, _, s4, rfl⟩
  | cons c rest ih =>
    intro j H hd hj hk
    simp only [List.length_cons] at hj
    have hs : Cells G a l.length k l := ht.own.sl
    obtain ⟨b, o, rfl⟩ := hs.at (by omega)
    have hx := drop_get hd
    have ra := (hs.keep hk).recs C5.z hx
    obtain ⟨H2, s2, g2, k2, n2⟩ := fill H c50.cells c.cells rfl
    have hk2 := hk.th k2
    have ei : IntKind.wrap .i64 ((j : Int) + 1) = ((j + 1 : Nat) : Int) := by rw [i64 (by omega) (by omega)]; omega
    by_cases e : c.f = h ∧ c.s ≥ n
    · refine ⟨H2, L1_step ?_, hk2⟩
      rw [if_pos (by omega), if_pos ⟨c, List.mem_cons_self .., e⟩]
      refine ⟨b, o, rfl, by omega, by omega, _, _, _, _, _, ra, _, rfl, H2, s2, _, rldc' g2 0, ?_⟩
      rw [if_pos e.1]
      refine ⟨_, rldc' g2 1, L2_step ?_⟩
      rw [if_pos (decide_eq_true e.2)]
    · obtain ⟨H', z, q⟩ := ih (j + 1) H2 (drop_next hd) (by omega) hk2
      have ex : (∃ x ∈ c :: rest, x.f = h ∧ x.s ≥ n) ↔ ∃ x ∈ rest, x.f = h ∧ x.s ≥ n :=
        ⟨fun ⟨x, hx, q⟩ => by
          rcases List.mem_cons.1 hx with rfl | hx
          · exact absurd q e
          · exact ⟨x, hx, q⟩, fun ⟨x, hx, q⟩ => ⟨x, List.mem_cons_of_mem _ hx, q⟩⟩
      refine ⟨H', L1_step ?_, q⟩
      rw [if_pos (by omega)]
      refine ⟨b, o, rfl, by omega, by omega, _, _, _, _, _, ra, _, rfl, H2, s2, _, rldc' g2 0, ?_⟩
      have z' : L1 D 0 h n (some ⟨b, o, none⟩) l.length k (l.length : Int) (((j + 1 : Nat) : Int)) H2 (if ∃ x ∈ c :: rest, x.f = h ∧ x.s ≥ n then (.int .i64 9, H') else (.int .i64 0, H'.set D (.row ((ln.set h.toNat n).map (Value.int .i64) ++ [.slice (some ⟨b, o, none⟩) l.length k]) true))) := by
        by_cases q : ∃ x ∈ rest, x.f = h ∧ x.s ≥ n
        · rw [if_pos q] at z; rw [if_pos (ex.2 q)]; exact z
        · rw [if_neg q] at z; rw [if_neg (fun w => q (ex.1 w))]; exact z
      by_cases e1 : c.f = h
      · rw [if_pos e1]
        refine ⟨_, rldc' g2 1, L2_step ?_⟩
        rw [if_neg (by rw [decide_eq_true_eq]; exact fun q => e ⟨e1, q⟩), ei]
        exact z'
      · rw [if_neg e1]
        refine L2_step ?_
        rw [if_neg (by decide), ei]
        exact z'
theorem ok {base : Nat} {H : Heap} {D : Nat} {ln : List Int} {a : Option Addr} {k : Nat} {l : List C5} (ht : TB base H D ln a k l) (hl : l.length ≤ 1000) (h n : Int) :
    ∃ H', Cd 27 [.pointer (some ⟨D, 0, none⟩), .int .i64 h, .int .i64 n] H = some (.int .i64 (frE l h n), H') ∧ TB base H' D (if frE l h n = 0 then ln.set h.toNat n else ln) a k l ∧ Chg (fun b => b = D) H H' := by
  have bad : L0 (some ⟨D, 0, none⟩) h n true H (.int .i64 1, H) := L0_step (by rw [if_pos rfl])
  unfold frE
  by_cases h1 : inP h 0 3 ∧ inP n 0 200
  · rw [if_neg (fun c => c h1)]
    obtain ⟨H1, z, q⟩ := l1 (n := n) ht hl h1.1 l 0 H rfl (by omega) (Keep.refl _ _)
    have start : ∀ rv, L1 D 0 h n a l.length k (l.length : Int) ((0 : Nat) : Int) H rv → Cd 27 [.pointer (some ⟨D, 0, none⟩), .int .i64 h, .int .i64 n] H = some rv := by
      intro rv hv
      refine call ?_
      obtain ⟨⟨a1, a2⟩, ⟨b1, b2⟩⟩ := h1
      rw [if_neg (by omega), if_neg (by omega), if_neg (by omega), decide_eq_false (by omega)]
      refine L0_step ?_
      rw [if_neg (by decide)]
      exact ⟨D, 0, rfl, _, _, _, (rldc' ht.row 4).trans (tb4 ht.len), hv⟩
    by_cases e : ∃ c ∈ l, c.f = h ∧ c.s ≥ n
    · rw [if_pos e] at z ⊢
      rw [if_neg (by decide)]
      exact ⟨H1, start _ z, ht.keep q, q.chg0⟩
    · rw [if_neg e] at z ⊢
      rw [if_pos rfl]
      have t1 := ht.keep q
      exact ⟨_, start _ z, ⟨Heap.get_set_same _ _ _, t1.own.chg (chgSet' _) (fun b hb hh => ht.ap ((show b = D from hh) ▸ hb)), ht.ap, by rw [List.length_set]; exact ht.len, ht.lb, t1.lt⟩, (q.chg0 (S := fun b => b = D)).trans (chgSet' _) fun _ _ h => h⟩
  · rw [if_pos h1, if_neg (by decide)]
    refine ⟨H, call ?_, ht, Chg.refl _⟩
    by_cases q1 : h < 0
    · rw [if_pos q1]; exact bad
    · rw [if_neg q1]
      by_cases q2 : h ≥ 4
      · rw [if_pos q2]; exact bad
      · rw [if_neg q2]
        by_cases q3 : n < 0
        · rw [if_pos q3]; exact bad
        · rw [if_neg q3, decide_eq_true (by
            by_cases q4 : n > 200
            · exact q4
            · exact absurd ⟨⟨by omega, by omega⟩, ⟨by omega, by omega⟩⟩ h1)]
          exact bad
end F27
def nl (c y : C5) : Bool := !decide (cmpC c y < 0)
def posR (c : C5) (out : List C5) : Nat := (out.takeWhile (nl c)).length
def insR (c : C5) (out : List C5) : List C5 := out.take (posR c out) ++ c :: out.drop (posR c out)
def srt : List C5 → List C5 → List C5
  | out, [] => out
  | out, c :: rest => srt (insR c out) rest
theorem insR_len (c : C5) (out : List C5) : (insR c out).length = out.length + 1 := by
  unfold insR; rw [List.length_append, List.length_cons, List.length_take, List.length_drop]; omega
theorem posR_le (c : C5) (l : List C5) : posR c l ≤ l.length := by
  unfold posR
  have h := congrArg List.length (List.takeWhile_append_dropWhile (p := nl c) (l := l))
  rw [List.length_append] at h; omega
theorem Own.nil5 {base : Nat} {H : Heap} : Own base H 5 none 0 0 [] := ⟨rfl, .inl ⟨rfl, rfl, rfl⟩⟩
theorem Sl.part5 {H : Heap} {n k : Nat} {a : Option Addr} {l : List C5} (h : Cells H a n k l) (lo hi : Option Int) (p r : Nat) (hl : lo = none ∧ p = 0 ∨ lo = some (p : Int)) (hr : hi = none ∧ r = n ∨ hi = some (r : Int)) (hlr : p ≤ r) (hrn : r ≤ n) :
    ∃ a' k', psl 5 a n k lo hi none = some (a', r - p, k') ∧ Cells H a' (r - p) k' ((l.drop p).take (r - p)) := by
  obtain ⟨a', k', h1, h2⟩ := Sl.part h lo hi p r hl hr hlr hrn
  refine ⟨a', k', h1, ?_⟩
  rw [(flat_take C5.z l p).2, (flat_take C5.z (l.drop p) (r - p)).1] at h2
  exact h2
namespace F47
theorem l1 {G : Heap} {x : Option Addr} {n kx P : Nat} {out : List C5} {c : C5} {b7 o7 n7 k7 : Nat} {t8 t9 : Int} (hs : Cells G x n kx out) (hl : out.length = n) (hn : n ≤ 1000) (g : G.get P = .row c.cells true) (hP : P < G.next) : ∀ (rest : List C5) (j : Nat) (H : Heap), out.drop j = rest → j + rest.length = n → Keep G.next G H →
    ∃ X, Keep G.next G X ∧ ∀ rv, L2 x n kx P 0 (((j + (rest.takeWhile (nl c)).length : Nat)) : Int) b7 o7 n7 k7 t8 t9 false X rv → L1 x n kx P 0 (j : Int) b7 o7 n7 k7 t8 t9 H rv := by
  intro rest
  induction rest with
  | nil =>
    intro j H hd hj hk
    simp only [List.length_nil] at hj
    refine ⟨H, hk, fun rv hv => L1_step ?_⟩
    rw [if_neg (by omega)]
    exact hv
  | cons y rest ih =>
    intro j H hd hj hk
    simp only [List.length_cons] at hj
    obtain ⟨b, o, rfl⟩ := hs.at (by omega)
    have hx := drop_get hd
    have ra := (hs.keep hk).recs C5.z hx
    obtain ⟨H1, c1, k1⟩ := F23.ok c y H
    have gP : H.get P = .row c.cells true := by rw [hk.get _ hP]; exact g
    by_cases e : cmpC c y < 0
    · refine ⟨H1, hk.th k1, fun rv hv => L1_step ?_⟩
      rw [if_pos (by omega)]
      refine ⟨_, _, _, _, _, rldAll gP, b, o, rfl, by omega, by omega, _, _, _, _, _, ra, _, _, c1, ?_⟩
      rw [List.takeWhile_cons, if_neg (by simp [nl, e])] at hv
      rw [decide_eq_true e]
      exact hv
    · obtain ⟨X, q1, q2⟩ := ih (j + 1) H1 (drop_next hd) (by omega) (hk.th k1)
      refine ⟨X, q1, fun rv hv => L1_step ?_⟩
      rw [if_pos (by omega)]
      refine ⟨_, _, _, _, _, rldAll gP, b, o, rfl, by omega, by omega, _, _, _, _, _, ra, _, _, c1, L2_step ?_⟩
      rw [decide_eq_false e, if_pos (by decide), i64 (by omega) (by omega)]
      rw [List.takeWhile_cons, if_pos (by simp [nl, e]), List.length_cons] at hv
      have := q2 rv (by rw [show j + 1 + (rest.takeWhile (nl c)).length = j + ((rest.takeWhile (nl c)).length + 1) by omega]; exact hv)
      exact_mod_cast this
theorem l2 {base : Nat} {H : Heap} {x : Option Addr} {n kx P q : Nat} {out : List C5} {c : C5} {b7 o7 n7 k7 : Nat} {t8 t9 : Int} (hs : Cells H x n kx out) (hl : out.length = n) (hn : n ≤ 1000) (g : H.get P = .row c.cells true) (hP : P < H.next) (hq : q ≤ n) (hb : base ≤ H.next) :
    ∃ x' k' H', Own base H' 5 x' (n + 1) k' ((out.take q ++ c :: out.drop q).flatMap C5.cells) ∧ Keep H.next H H' ∧ ∀ rv, L0 x' (n + 1) k' (some ⟨b7, o7, none⟩) n7 k7 t8 (IntKind.wrap .i64 (t9 + 1)) H' rv → L2 x n kx P 0 (q : Int) b7 o7 n7 k7 t8 t9 false H rv := by
  obtain ⟨a1, k1, p1, s1⟩ := Sl.part5 hs none (some (q : Int)) 0 q (.inl ⟨rfl, rfl⟩) (.inr rfl) (Nat.zero_le _) hq
  obtain ⟨a2, k2, p2, s2⟩ := Sl.part5 hs (some (q : Int)) none q n (.inr rfl) (.inl ⟨rfl, rfl⟩) hq (Nat.le_refl _)
  simp only [Nat.sub_zero, List.drop_zero] at p1 s1
  rw [List.take_of_length_le (by rw [List.length_drop]; omega)] at s2
  generalize hR : reserve H 12 = R at *
  have kR : Keep H.next H R := by rw [← hR]; exact Keep.reserve H 12
  have nR : R.next = H.next + 12 := by rw [← hR, next_reserve]
  obtain ⟨x3, k3, H3, c3, o3, f3, i3⟩ := Own.append' (by_ := 40) (base := H.next) (H := R) Own.nil5 (s1.keep kR) (by decide) (by omega) (by omega) (by omega)
  have n3 := f3.next
  have hx3 : ∀ b, In1 x3 b → R.next ≤ b := fun b hb => (i3 b hb).resolve_left In1.none
  simp only [Nat.zero_add, List.nil_append] at c3 o3
  have kR3 : Keep H.next H H3 := kR.trans (f3.keep (base := H.next) (by omega) fun b _ hh => absurd hh In1.none)
  let Y := H3.set (H.next + 5) (.row c.cells true)
  have gY : Y.get (H.next + 5) = .row c.cells true := Heap.get_set_same _ _ _
  have nY : Y.next = H3.next := rfl
  have oY : Own H.next Y 5 x3 q k3 ((out.take q).flatMap C5.cells) := o3.chg (chgSet' _) fun b hb hh => by have := hx3 b hb; have hh : b = H.next + 5 := hh; omega
  have sY : Sl Y 5 (some ⟨H.next + 5, 0, none⟩) 1 (UNK 5) c.cells := Own.sl (base := H.next) ⟨rfl, .inr ⟨H.next + 5, 0, c.cells, rfl, rfl, by omega, by omega, gY, by simp, by simp⟩⟩
  obtain ⟨x4, k4, H4, c4, o4, f4, i4⟩ := Own.append' (by_ := 40) oY sY (by decide) (by omega) (by omega) (by omega)
  have n4 := f4.next
  have kY : Keep H.next H Y := kR3.trans (Keep.set _ (by omega))
  have k04 : Keep H.next H H4 := kY.trans (f4.keep (base := H.next) (by omega) fun b _ hh => (oY.lt hh).1)
  obtain ⟨x5, k5, H5, c5, o5, f5, i5⟩ := Own.append' (by_ := 40) o4 (s2.keep k04) (by decide) (by omega) (by omega) (by omega)
  rw [show q + 1 + (n - q) = n + 1 by omega] at c5 o5
  have e5 : (out.take q).flatMap C5.cells ++ c.cells ++ (out.drop q).flatMap C5.cells = (out.take q ++ c :: out.drop q).flatMap C5.cells := by
    rw [List.flatMap_append, List.flatMap_cons, List.append_assoc]
  rw [e5] at o5
  refine ⟨x5, k5, H5, o5.weak hb, k04.trans (f5.keep (base := H.next) (by omega) fun b _ hh => (o4.lt hh).1), fun rv hv => L2_step ?_⟩
  rw [if_neg (by decide)]
  have gR : R.get P = .row c.cells true := by rw [kR.get _ hP]; exact g
  have g3 : H3.get P = .row c.cells true := by rw [kR3.get _ hP]; exact g
  rw [hR]
  exact ⟨_, _, _, p1, _, _, _, _, c3, _, _, _, _, _, rldAll gR, _, _, _, _, c4, _, _, _, p2, _, _, _, _, c5, rldAll g3, hv⟩
theorem l0 {G : Heap} {a : Option Addr} {n k : Nat} {l : List C5} (hs : Cells G a n k l) (hn : n ≤ 500) : ∀ (rest : List C5) (j : Nat) (out : List C5) (x : Option Addr) (kx : Nat) (H : Heap), l.drop j = rest → j + rest.length = n → out.length = j → Keep G.next G H → Own G.next H 5 x out.length kx (out.flatMap C5.cells) →
    ∃ x' k' H', L0 x out.length kx a n k (n : Int) (j : Int) H (.slice x' (srt out rest).length k', H') ∧ Own G.next H' 5 x' (srt out rest).length k' ((srt out rest).flatMap C5.cells) ∧ Keep G.next G H' := by
  intro rest
  induction rest with
  | nil =>
    intro j out x kx H hd hj ho hk hown
    simp only [List.length_nil] at hj
    refine ⟨x, kx, H, L0_step ?_, hown, hk⟩
    rw [if_neg (by omega)]; rfl
  | cons c rest ih =>
    intro j out x kx H hd hj ho hk hown
    simp only [List.length_cons] at hj
    obtain ⟨b, o, rfl⟩ := hs.at (by omega)
    have hx := drop_get hd
    have ra := (hs.keep hk).recs C5.z hx
    obtain ⟨H2, s2, g2, k2, n2⟩ := fill H c50.cells c.cells rfl
    have hk2 := hk.th k2
    have o2 := hown.keep k2
    obtain ⟨X, q1, q2⟩ := l1 (b7 := b) (o7 := o) (n7 := n) (k7 := k) (t8 := (n : Int)) (t9 := (j : Int)) o2.sl rfl (by omega) g2 (by omega) out 0 H2 rfl (by omega) (Keep.refl _ _)
    have hpl := posR_le c out
    have m1 := q1.next
    have mk2 := hk2.next
    obtain ⟨x', k', H', o', kk, q3⟩ := l2 (base := G.next) (q := posR c out) (b7 := b) (o7 := o) (n7 := n) (k7 := k) (t8 := (n : Int)) (t9 := (j : Int)) (o2.keep q1).sl rfl (by omega) (show X.get H.next = .row c.cells true by rw [q1.get _ (by omega)]; exact g2) (by omega) hpl (by omega)
    have hkX := (hk2.th q1).th kk
    have el := insR_len c out
    obtain ⟨x'', k'', H'', z, r1, r2⟩ := ih (j + 1) (insR c out) x' k' H' (drop_next hd) (by omega) (by rw [el, ho]) hkX (by rw [el]; exact o')
    refine ⟨x'', k'', H'', L0_step ?_, r1, r2⟩
    rw [if_pos (by omega)]
    refine ⟨b, o, rfl, by omega, by omega, _, _, _, _, _, ra, _, rfl, H2, s2, ?_⟩
    have ei : IntKind.wrap .i64 ((j : Int) + 1) = ((j + 1 : Nat) : Int) := by rw [i64 (by omega) (by omega)]; omega
    rw [el] at z
    rw [ei] at q3
    have := q2 (.slice x'' (srt (insR c out) rest).length k'', H'') (by
      rw [Nat.zero_add]
      exact q3 _ z)
    exact this
theorem ok {H : Heap} {a : Option Addr} {n k : Nat} {l : List C5} (hs : Cells H a n k l) (hn : n ≤ 500) : ∃ x' k' H', Cd 47 [.slice a n k] H = some (.slice x' (srt [] l).length k', H') ∧ Own H.next H' 5 x' (srt [] l).length k' ((srt [] l).flatMap C5.cells) ∧ Keep H.next H H' := by
  have hl := hs.cnt C5.z (by decide)
  obtain ⟨x', k', H', z, o, kk⟩ := l0 hs hn l 0 [] none 0 H rfl (by omega) rfl (Keep.refl _ _) Own.nil5
  exact ⟨x', k', H', call z, o, kk⟩
end F47
theorem srt_app : ∀ (r1 out r2 : List C5), srt out (r1 ++ r2) = srt (srt out r1) r2
  | [], _, _ => rfl
  | c :: r1, out, r2 => srt_app r1 (insR c out) r2
theorem tw_all {p : C5 → Bool} : ∀ {l : List C5}, (∀ x ∈ l, p x = true) → l.takeWhile p = l
  | [], _ => rfl
  | c :: l, h => by rw [List.takeWhile_cons, if_pos (h c (List.mem_cons_self ..)), tw_all fun x hx => h x (List.mem_cons_of_mem _ hx)]
theorem tw_congr {p q : C5 → Bool} : ∀ {l : List C5}, (∀ x ∈ l, p x = q x) → l.takeWhile p = l.takeWhile q
  | [], _ => rfl
  | c :: l, h => by rw [List.takeWhile_cons, List.takeWhile_cons, h c (List.mem_cons_self ..), tw_congr fun x hx => h x (List.mem_cons_of_mem _ hx)]
theorem srt_sl : ∀ (rest out : List C5), SL (out ++ rest) → srt out rest = out ++ rest
  | [], out, _ => by simp [srt]
  | c :: rest, out, h => by
    have e : insR c out = out ++ [c] := by
      have hp : posR c out = out.length := by
        unfold posR
        rw [tw_all fun x hx => ?_]
        have := (List.pairwise_append.1 h).2.2 x hx c (List.mem_cons_self ..)
        simp [nl, lx_anti this, show ¬cmpC c x < 0 from lx_anti this]
      unfold insR; rw [hp]; simp
    show srt (insR c out) rest = _
    rw [e, srt_sl rest (out ++ [c]) (by simpa using h)]
    simp
theorem srt_ins {l : List C5} {c : C5} (h : SL l) (hc : ∀ x ∈ l, x ≠ c) : srt [] (l ++ [c]) = insC c l := by
  rw [srt_app, srt_sl l [] (by simpa using h)]
  show insR c l = insC c l
  have : posR c l = pos c l := by
    unfold posR pos
    rw [tw_congr fun x hx => ?_]
    unfold nl below
    by_cases e : cmpC x c < 0
    · rw [decide_eq_true e, decide_eq_false (show ¬cmpC c x < 0 from lx_anti e)]; rfl
    · rw [decide_eq_false e, decide_eq_true (show cmpC c x < 0 from Classical.not_not.1 fun q => hc x hx (nums_inj.1 (lx_tot rfl e q)))]; rfl
  unfold insR insC; rw [this]
theorem insC_mem {c x : C5} {l : List C5} (h : x ∈ insC c l) : x = c ∨ x ∈ l := by
  unfold insC at h
  rcases List.mem_append.1 h with h | h
  · exact .inr (List.mem_of_mem_take h)
  · rcases List.mem_cons.1 h with h | h
    · exact .inl h
    · exact .inr (List.mem_of_mem_drop h)
theorem insC_len (c : C5) (l : List C5) : (insC c l).length = l.length + 1 := by
  unfold insC; rw [List.length_append, List.length_cons, List.length_take, List.length_drop]; omega
theorem tw_take {p : C5 → Bool} : ∀ {l : List C5}, l.take (l.takeWhile p).length = l.takeWhile p ∧ l.drop (l.takeWhile p).length = l.dropWhile p
  | [] => ⟨rfl, rfl⟩
  | c :: l => by
    obtain ⟨a, b⟩ := tw_take (p := p) (l := l)
    rw [List.takeWhile_cons, List.dropWhile_cons]
    by_cases h : p c = true
    · rw [if_pos h, if_pos h]; simp [a, b]
    · rw [if_neg h, if_neg h]; simp
theorem tw_pos {p : C5 → Bool} : ∀ {l : List C5} {x : C5}, x ∈ l.takeWhile p → p x = true
  | c :: l, x, h => by
    rw [List.takeWhile_cons] at h
    by_cases hp : p c = true
    · rw [if_pos hp] at h
      rcases List.mem_cons.1 h with rfl | h
      · exact hp
      · exact tw_pos h
    · rw [if_neg hp] at h; cases h
theorem dw_neg {c : C5} : ∀ {l : List C5} {x : C5}, SL l → x ∈ l.dropWhile (below c) → ¬cmpC x c < 0
  | y :: l, x, h, hx => by
    rw [List.dropWhile_cons] at hx
    by_cases hp : below c y = true
    · rw [if_pos hp] at hx
      exact dw_neg (List.pairwise_cons.1 h).2 hx
    · rw [if_neg hp] at hx
      have hy : ¬cmpC y c < 0 := by simpa [below] using hp
      rcases List.mem_cons.1 hx with rfl | hx
      · exact hy
      · exact fun q => hy (lx_trans ((List.pairwise_cons.1 h).1 x hx) q)
theorem insC_sl {l : List C5} {c : C5} (h : SL l) (hc : ∀ x ∈ l, x ≠ c) : SL (insC c l) := by
  have h' : SL (l.takeWhile (below c) ++ l.dropWhile (below c)) := by rw [List.takeWhile_append_dropWhile]; exact h
  unfold insC pos
  rw [tw_take.1, tw_take.2]
  obtain ⟨a1, a2, a3⟩ := List.pairwise_append.1 h'
  have hb : ∀ x ∈ l.takeWhile (below c), cmpC x c < 0 := fun x hx => by simpa [below] using tw_pos hx
  refine List.pairwise_append.2 ⟨a1, List.pairwise_cons.2 ⟨fun x hx => ?_, a2⟩, fun x hx y hy => ?_⟩
  · have hn := dw_neg h hx
    have hm : x ∈ l := (List.dropWhile_sublist _).subset hx
    exact Classical.not_not.1 fun q => hc x hm (nums_inj.1 (lx_tot rfl hn q))
  · rcases List.mem_cons.1 hy with rfl | hy
    · exact hb x hx
    · exact a3 x hx y hy
namespace F28
theorem l0 {base : Nat} {G : Heap} {D P : Nat} {ln : List Int} {a : Option Addr} {k : Nat} {l : List C5} {c : C5} (ht : TB base G D ln a k l) (hl : l.length ≤ 64) (g : G.get P = .row c.cells true) (hP : P < G.next) : ∀ (rest : List C5) (j : Nat) (H : Heap), l.drop j = rest → j + rest.length = l.length → Keep G.next G H →
    ∃ a' k' H', L0 D 0 P 0 a l.length k (l.length : Int) (j : Int) H (.int .i64 (if ∃ x ∈ rest, x.f = c.f ∧ x.s = c.s ∧ x.c = c.c then 9 else if 64 ≤ l.length then 5 else 0), H') ∧
      TB base H' D ln a' k' (if (∃ x ∈ rest, x.f = c.f ∧ x.s = c.s ∧ x.c = c.c) ∨ 64 ≤ l.length then l else srt [] (l ++ [c])) ∧ Chg (fun b => b = D ∨ In1 a b) G H' ∧ ∀ b, In1 a' b → In1 a b ∨ G.next ≤ b := by
  intro rest
  induction rest with
  | nil =>
    intro j H hd hj hk
    simp only [List.length_nil] at hj
    have ht' := ht.keep hk
    have m := hk.next
    have gP : H.get P = .row c.cells true := by rw [hk.get _ hP]; exact g
    have hlt := ht.lt
    have hlb := ht.lb
    by_cases hf : 64 ≤ l.length
    · refine ⟨a, k, H, L0_step ?_, by rw [if_pos (.inr hf)]; exact ht', hk.chg0, fun b hb => .inl hb⟩
      rw [if_neg (by omega), if_neg (by simp), if_pos hf]
      refine ⟨_, _, _, (rldc' ht'.row 4).trans (tb4 ht.len), ?_⟩
      rw [if_pos (by omega)]
    · obtain ⟨H3, e3, n3, g3, k3⟩ := one H c.cells
      have ht3 := ht'.keep k3
      have s3 : Sl H3 5 (some ⟨H.next, 0, none⟩) 1 (UNK 5) c.cells := by rw [e3]; exact (Own.new (H := H) (z := 5) (n := 1) (vs := c.cells) rfl).sl
      obtain ⟨x4, k4, H4, c4, o4, f4, i4⟩ := Own.append' (by_ := 40) ht3.own s3 (by decide) (by have := ht3.lt; omega) (by omega) (by omega)
      have m4 := f4.next
      have ev : l.flatMap C5.cells ++ c.cells = (l ++ [c]).flatMap C5.cells := by simp
      rw [ev] at o4
      obtain ⟨x5, k5, H5, c5, o5, kk5⟩ := F47.ok (l := l ++ [c]) o4.sl (by omega)
      have m5 := kk5.next
      have r5 : H5.get D = .row (ln.map (Value.int .i64) ++ [.slice a l.length k]) true := by rw [kk5.get _ (by omega), f4.get _ (by omega) ht.ap]; exact ht3.row
      have ls : (ln.map (Value.int .i64)).length = 4 := by rw [List.length_map]; exact ht.len
      have s6 : stc H5 D 4 [.slice x5 (srt [] (l ++ [c])).length k5] = some (H5.set D (.row (ln.map (Value.int .i64) ++ [.slice x5 (srt [] (l ++ [c])).length k5]) true)) := by
        rw [rstc' r5 (i := 4) (by simp [ht.len])]
        congr 3
        rw [List.set_append_right _ _ (by omega), ls]; rfl
      have apD : ¬In1 x5 D := fun hh => by have := (o5.lt hh).1; omega
      refine ⟨x5, k5, H5.set D (.row (ln.map (Value.int .i64) ++ [.slice x5 (srt [] (l ++ [c])).length k5]) true), L0_step ?_, ?_, ?_, fun b hb => .inr (by have := (o5.lt hb).1; omega)⟩
      · rw [if_neg (by omega), if_neg (by simp), if_neg hf]
        refine ⟨_, _, _, (rldc' ht'.row 4).trans (tb4 ht.len), ?_⟩
        rw [if_neg (by omega)]
        exact ⟨_, _, _, (rldc' ht'.row 4).trans (tb4 ht.len), _, _, _, _, _, rldAll gP, _, e3, _, _, _, _, c4, _, _, _, _, c5, _, s6, (rldc' ht3.row 4).trans (tb4 ht.len), rfl⟩
      · rw [if_neg (fun q => by
          rcases q with ⟨x, hx, _⟩ | q
          · cases hx
          · exact hf q)]
        exact ⟨Heap.get_set_same _ _ _, (o5.weak (by omega)).chg (chgSet' _) (fun b hb hh => apD ((show b = D from hh) ▸ hb)), apD, ht.len, hlb, by show D < H5.next; omega⟩
      · exact ((((hk.th k3).chg0 (S := fun b => b = D ∨ In1 a b)).trans (f4.weak (T := fun b => b = D ∨ In1 a b) fun _ _ h => .inr h) fun _ _ h => h).trans (kk5.chg0 (S := fun b => b = D ∨ In1 a b)) fun _ _ h => h).trans (chgSet' _) fun _ _ h => .inl h
  | cons x rest ih =>
    intro j H hd hj hk
    simp only [List.length_cons] at hj
    have hs : Cells G a l.length k l := ht.own.sl
    obtain ⟨b, o, rfl⟩ := hs.at (by omega)
    have hx := drop_get hd
    have ra := (hs.keep hk).recs C5.z hx
    obtain ⟨H2, s2, g2, k2, n2⟩ := fill H c50.cells x.cells rfl
    have hk2 := hk.th k2
    have gP : H2.get P = .row c.cells true := by rw [hk2.get _ hP]; exact g
    have ei : IntKind.wrap .i64 ((j : Int) + 1) = ((j + 1 : Nat) : Int) := by rw [i64 (by omega) (by omega)]; omega
    by_cases e : x.f = c.f ∧ x.s = c.s ∧ x.c = c.c
    · refine ⟨some ⟨b, o, none⟩, k, H2, L0_step ?_, by rw [if_pos (.inl ⟨x, List.mem_cons_self .., e⟩)]; exact ht.keep hk2, hk2.chg0, fun b hb => .inl hb⟩
      rw [if_pos (by omega), if_pos ⟨x, List.mem_cons_self .., e⟩]
      refine ⟨b, o, rfl, by omega, by omega, _, _, _, _, _, ra, _, rfl, H2, s2, _, rldc' g2 0, _, rldc' gP 0, ?_⟩
      rw [if_pos e.1]
      refine ⟨_, rldc' g2 1, _, rldc' gP 1, ?_⟩
      rw [if_pos e.2.1]
      refine ⟨_, rldc' g2 2, _, rldc' gP 2, L1_step ?_⟩
      rw [if_pos (by rw [e.2.2]; simp)]
    · obtain ⟨a', k', H', z, q1, q2, q3⟩ := ih (j + 1) H2 (drop_next hd) (by omega) hk2
      have ex : (∃ y ∈ x :: rest, y.f = c.f ∧ y.s = c.s ∧ y.c = c.c) ↔ ∃ y ∈ rest, y.f = c.f ∧ y.s = c.s ∧ y.c = c.c :=
        ⟨fun ⟨y, hy, q⟩ => by
          rcases List.mem_cons.1 hy with rfl | hy
          · exact absurd q e
          · exact ⟨y, hy, q⟩, fun ⟨y, hy, q⟩ => ⟨y, List.mem_cons_of_mem _ hy, q⟩⟩
      have z' : L0 D 0 P 0 (some ⟨b, o, none⟩) l.length k (l.length : Int) (((j + 1 : Nat)) : Int) H2 (.int .i64 (if ∃ y ∈ x :: rest, y.f = c.f ∧ y.s = c.s ∧ y.c = c.c then 9 else if 64 ≤ l.length then 5 else 0), H') := by
        by_cases q : ∃ y ∈ rest, y.f = c.f ∧ y.s = c.s ∧ y.c = c.c
        · rw [if_pos q] at z; rw [if_pos (ex.2 q)]; exact z
        · rw [if_neg q] at z; rw [if_neg (fun w => q (ex.1 w))]; exact z
      have q1' : TB base H' D ln a' k' (if (∃ y ∈ x :: rest, y.f = c.f ∧ y.s = c.s ∧ y.c = c.c) ∨ 64 ≤ l.length then l else srt [] (l ++ [c])) := by
        by_cases q : (∃ y ∈ rest, y.f = c.f ∧ y.s = c.s ∧ y.c = c.c) ∨ 64 ≤ l.length
        · rw [if_pos q] at q1; rw [if_pos (q.imp_left ex.2)]; exact q1
        · rw [if_neg q] at q1; rw [if_neg (fun w => q (w.imp_left ex.1))]; exact q1
      refine ⟨a', k', H', L0_step ?_, q1', q2, q3⟩
      rw [if_pos (by omega)]
      refine ⟨b, o, rfl, by omega, by omega, _, _, _, _, _, ra, _, rfl, H2, s2, _, rldc' g2 0, _, rldc' gP 0, ?_⟩
      by_cases h1 : x.f = c.f
      · rw [if_pos h1]
        refine ⟨_, rldc' g2 1, _, rldc' gP 1, ?_⟩
        by_cases h2 : x.s = c.s
        · rw [if_pos h2]
          refine ⟨_, rldc' g2 2, _, rldc' gP 2, L1_step ?_⟩
          rw [if_neg (by simpa using fun h3 => e ⟨h1, h2, h3⟩), ei]
          exact z'
        · rw [if_neg h2]
          refine L1_step ?_
          rw [if_neg (by decide), ei]
          exact z'
      · rw [if_neg h1]
        refine L1_step ?_
        rw [if_neg (by decide), ei]
        exact z'
theorem ok {base : Nat} {H : Heap} {D : Nat} {ln : List Int} {a : Option Addr} {k : Nat} {l : List C5} (ht : TB base H D ln a k l) (hl : l.length ≤ 64) (sl : SL l) (c : C5) :
    ∃ a' k' H', Cd 28 [.pointer (some ⟨D, 0, none⟩), c.agg] H = some (.int .i64 (adE ln l c), H') ∧ TB base H' D ln a' k' (if adE ln l c = 0 then insC c l else l) ∧ Chg (fun b => b = D ∨ In1 a b) H H' ∧ ∀ b, In1 a' b → In1 a b ∨ H.next ≤ b := by
  obtain ⟨H1, e1, n1, g1, k1⟩ := one H c.cells
  obtain ⟨H2, c2, k2⟩ := F15.ok c H1
  have k12 := k1.th k2
  have ht2 := ht.keep k12
  have m2 := k2.next
  have g2 : H2.get H.next = .row c.cells true := by rw [k2.get _ (by omega)]; exact g1
  unfold adE
  by_cases hm : mayC c
  · rw [if_neg (fun x => x hm)]
    have hf := hm.1
    have ld : ldc H2 D (0 + Int.toNat c.f * 1) = some (.int .i64 (ln.getD c.f.toNat 0)) := by
      rw [show 0 + Int.toNat c.f * 1 = c.f.toNat by omega, rldc' ht2.row]
      exact tbj (by rw [ht.len]; have := hf.1; have := hf.2; omega)
    by_cases hs : c.s ≥ ln.getD c.f.toNat 0
    · rw [if_pos hs, if_neg (by decide)]
      refine ⟨a, k, H2, call ⟨_, e1, _, _, _, _, _, rldAll g1, _, _, c2, ?_⟩, ht2, k12.chg0, fun b hb => .inl hb⟩
      rw [if_pos (decide_eq_true hm)]
      refine ⟨_, rldc' g2 0, D, 0, rfl, hf.1, by have := hf.2; omega, _, ld, _, rldc' g2 1, ?_⟩
      rw [if_pos hs]
    · rw [if_neg hs]
      obtain ⟨a', k', H', z, q1, q2, q3⟩ := l0 ht2 hl g2 (by omega) l 0 H2 rfl (by omega) (Keep.refl _ _)
      refine ⟨a', k', H', call ⟨_, e1, _, _, _, _, _, rldAll g1, _, _, c2, ?_⟩, ?_, ((k12.chg0 (S := fun b => b = D ∨ In1 a b)).trans q2 fun _ _ h => h), fun b hb => (q3 b hb).imp_right fun h => by have := k12.next; omega⟩
      · rw [if_pos (decide_eq_true hm)]
        refine ⟨_, rldc' g2 0, D, 0, rfl, hf.1, by have := hf.2; omega, _, ld, _, rldc' g2 1, ?_⟩
        rw [if_neg hs]
        exact ⟨_, _, _, (rldc' ht2.row 4).trans (tb4 ht.len), z⟩
      · by_cases hcl : ∃ x ∈ l, x.f = c.f ∧ x.s = c.s ∧ x.c = c.c
        · rw [if_pos hcl, if_neg (by decide)]
          rw [if_pos (.inl hcl)] at q1; exact q1
        · rw [if_neg hcl]
          by_cases hfu : 64 ≤ l.length
          · rw [if_pos hfu, if_neg (by decide)]
            rw [if_pos (.inr hfu)] at q1; exact q1
          · rw [if_neg hfu, if_pos rfl]
            rw [if_neg (fun q => q.elim hcl hfu), srt_ins sl (fun x hx e => hcl ⟨x, hx, by rw [e]; exact ⟨rfl, rfl, rfl⟩⟩)] at q1
            exact q1
  · rw [if_pos hm, if_neg (by decide)]
    refine ⟨a, k, H2, call ⟨_, e1, _, _, _, _, _, rldAll g1, _, _, c2, ?_⟩, ht2, k12.chg0, fun b hb => .inl hb⟩
    rw [if_neg (by simpa using hm)]
end F28
namespace F29
theorem l0 {base : Nat} {G : Heap} {D P : Nat} {ln : List Int} {a : Option Addr} {k : Nat} {l : List C5} {c : C5} (ht : TB base G D ln a k l) (hl : l.length ≤ 64) (g : G.get P = .row c.cells true) (hP : P < G.next) : ∀ (rest : List C5) (j : Nat) (H : Heap), l.drop j = rest → j + rest.length = l.length → Keep G.next G H →
    ∃ a' k' H', L0 D 0 P 0 a l.length k (l.length : Int) (j : Int) H (.int .i64 (if fx (fun x => c = x) rest < 0 then 6 else 0), H') ∧
      TB base H' D ln a' k' (if fx (fun x => c = x) rest < 0 then l else l.take (j + (fx (fun x => c = x) rest).toNat) ++ l.drop (j + (fx (fun x => c = x) rest).toNat + 1)) ∧ Chg (fun b => b = D ∨ In1 a b) G H' ∧ ∀ b, In1 a' b → In1 a b ∨ G.next ≤ b := by
  intro rest
  induction rest with
  | nil =>
    intro j H hd hj hk
    simp only [List.length_nil] at hj
    have e : fx (fun x => c = x) [] < 0 := by show (-1 : Int) < 0; decide
    refine ⟨a, k, H, L0_step ?_, by rw [if_pos e]; exact ht.keep hk, hk.chg0, fun b hb => .inl hb⟩
    rw [if_neg (by omega), if_pos e]
  | cons x rest ih =>
    intro j H hd hj hk
    simp only [List.length_cons] at hj
    have hs : Cells G a l.length k l := ht.own.sl
    obtain ⟨b, o, rfl⟩ := hs.at (by omega)
    have hx := drop_get hd
    have ra := (hs.keep hk).recs C5.z hx
    obtain ⟨H2, s2, g2, k2, n2⟩ := fill H c50.cells x.cells rfl
    have hk2 := hk.th k2
    have gP : H2.get P = .row c.cells true := by rw [hk2.get _ hP]; exact g
    have ht2 := ht.keep hk2
    have ei : IntKind.wrap .i64 ((j : Int) + 1) = ((j + 1 : Nat) : Int) := by rw [i64 (by omega) (by omega)]; omega
    have hbl := fx_le (fun x => c = x) rest
    have m2 := hk2.next
    have hlt := ht.lt
    have hlb := ht.lb
    by_cases e : c = x
    · have e0 : fx (fun x => c = x) (x :: rest) = 0 := by unfold fx; rw [if_pos e]
      obtain ⟨a3, k3, p3, s3⟩ := Sl.part5 ht2.own.sl none (some (j : Int)) 0 j (.inl ⟨rfl, rfl⟩) (.inr rfl) (Nat.zero_le _) (by omega)
      obtain ⟨a4, k4, p4, s4⟩ := Sl.part5 ht2.own.sl (some ((j + 1 : Nat) : Int)) none (j + 1) l.length (.inr rfl) (.inl ⟨rfl, rfl⟩) (by omega) (Nat.le_refl _)
      simp only [Nat.sub_zero, List.drop_zero] at p3 s3
      rw [List.take_of_length_le (by rw [List.length_drop]; omega)] at s4
      obtain ⟨x5, k5, H5, c5, o5, f5, i5⟩ := Own.append' (by_ := 40) (base := G.next) (H := H2) Own.nil5 s3 (by decide) (by omega) (by omega) (by omega)
      simp only [Nat.zero_add, List.nil_append] at c5 o5
      have n5 := f5.next
      have k25 : Keep H2.next H2 H5 := f5.keep (Nat.le_refl _) fun b _ hh => absurd hh In1.none
      have hx5 : ∀ b, In1 x5 b → H2.next ≤ b := fun b hb => (i5 b hb).resolve_left In1.none
      obtain ⟨x6, k6, H6, c6, o6, f6, i6⟩ := Own.append' (by_ := 40) o5 (s4.keep k25) (by decide) (by omega) (by omega) (by omega)
      have n6 := f6.next
      have hx6 : ∀ b, In1 x6 b → H2.next ≤ b := fun b hb => by
        rcases i6 b hb with h | h
        · exact hx5 b h
        · omega
      have el : (l.take j ++ l.drop (j + 1)).length = j + (l.length - (j + 1)) := by rw [List.length_append, List.length_take, List.length_drop]; omega
      have ev : (l.take j).flatMap C5.cells ++ (l.drop (j + 1)).flatMap C5.cells = (l.take j ++ l.drop (j + 1)).flatMap C5.cells := by rw [List.flatMap_append]
      rw [ev] at o6
      have r6 : H6.get D = .row (ln.map (Value.int .i64) ++ [.slice (some ⟨b, o, none⟩) l.length k]) true := by
        rw [f6.get _ (by omega) fun hh => by have := hx5 _ hh; omega, k25.get _ (by omega)]; exact ht2.row
      have ls : (ln.map (Value.int .i64)).length = 4 := by rw [List.length_map]; exact ht.len
      have s7 : stc H6 D 4 [.slice x6 (j + (l.length - (j + 1))) k6] = some (H6.set D (.row (ln.map (Value.int .i64) ++ [.slice x6 (j + (l.length - (j + 1))) k6]) true)) := by
        rw [rstc' r6 (i := 4) (by simp [ht.len])]
        congr 3
        rw [List.set_append_right _ _ (by omega), ls]; rfl
      have apD : ¬In1 x6 D := fun hh => by have := hx6 _ hh; omega
      have k26 : Keep H2.next H2 H6 := k25.trans (f6.keep (base := H2.next) (by omega) fun b _ hh => hx5 b hh)
      refine ⟨x6, k6, H6.set D (.row (ln.map (Value.int .i64) ++ [.slice x6 (j + (l.length - (j + 1))) k6]) true), L0_step ?_, ?_, ((hk2.th k26).chg0 (S := fun b' => b' = D ∨ In1 (some ⟨b, o, none⟩) b')).trans (chgSet' _) (fun _ _ h => .inl h), fun b hb => .inr (by have := hx6 b hb; omega)⟩
      · rw [if_pos (by omega), e0, if_neg (by decide)]
        refine ⟨b, o, rfl, by omega, by omega, _, _, _, _, _, ra, _, rfl, H2, s2, _, _, _, _, _, rldAll g2, _, _, _, _, _, rldAll gP, ?_⟩
        rw [if_pos (by rw [eqC]; exact decide_eq_true e.symm), ei]
        exact ⟨_, _, _, (rldc' ht2.row 4).trans (tb4 ht.len), _, _, _, p3, _, _, _, _, c5, _, _, _, (rldc' ht2.row 4).trans (tb4 ht.len), _, _, _, p4, _, _, _, _, c6, _, s7, (rldc' (ht2.keep k25).row 4).trans (tb4 ht.len), rfl⟩
      · rw [e0, if_neg (by decide)]
        have fin : TB base (H6.set D (.row (ln.map (Value.int .i64) ++ [.slice x6 (j + (l.length - (j + 1))) k6]) true)) D ln x6 k6 (l.take j ++ l.drop (j + 1)) := ⟨by rw [el]; exact Heap.get_set_same _ _ _, by rw [el]; exact (o6.weak (by omega)).chg (chgSet' _) (fun b' hb hh => apD ((show b' = D from hh) ▸ hb)), apD, ht.len, hlb, by show D < H6.next; omega⟩
        exact fin
    · obtain ⟨a', k', H', z, q1, q2, q3⟩ := ih (j + 1) H2 (drop_next hd) (by omega) hk2
      have e1 : fx (fun x => c = x) (x :: rest) = if fx (fun x => c = x) rest < 0 then -1 else fx (fun x => c = x) rest + 1 := by conv => lhs; unfold fx; rw [if_neg e]
      have z' : L0 D 0 P 0 (some ⟨b, o, none⟩) l.length k (l.length : Int) (((j + 1 : Nat)) : Int) H2 (.int .i64 (if fx (fun x => c = x) (x :: rest) < 0 then 6 else 0), H') := by
        rw [e1]
        by_cases q : fx (fun x => c = x) rest < 0
        · rw [if_pos q] at z ⊢; rw [if_pos (by decide)]; exact z
        · rw [if_neg q] at z ⊢; rw [if_neg (by omega)]; exact z
      have q1' : TB base H' D ln a' k' (if fx (fun x => c = x) (x :: rest) < 0 then l else l.take (j + (fx (fun x => c = x) (x :: rest)).toNat) ++ l.drop (j + (fx (fun x => c = x) (x :: rest)).toNat + 1)) := by
        rw [e1]
        by_cases q : fx (fun x => c = x) rest < 0
        · rw [if_pos q] at q1 ⊢; rw [if_pos (by decide)]; exact q1
        · rw [if_neg q] at q1 ⊢
          rw [if_neg (by omega), show j + (fx (fun x => c = x) rest + 1).toNat = j + 1 + (fx (fun x => c = x) rest).toNat by omega]; exact q1
      refine ⟨a', k', H', L0_step ?_, q1', q2, q3⟩
      rw [if_pos (by omega)]
      refine ⟨b, o, rfl, by omega, by omega, _, _, _, _, _, ra, _, rfl, H2, s2, _, _, _, _, _, rldAll g2, _, _, _, _, _, rldAll gP, ?_⟩
      rw [if_neg (by rw [eqC, decide_eq_true_eq]; exact fun q => e q.symm), ei]
      exact z'
theorem ok {base : Nat} {H : Heap} {D : Nat} {ln : List Int} {a : Option Addr} {k : Nat} {l : List C5} (ht : TB base H D ln a k l) (hl : l.length ≤ 64) (c : C5) :
    ∃ a' k' H', Cd 29 [.pointer (some ⟨D, 0, none⟩), c.agg] H = some (.int .i64 (if fx (fun x => c = x) l < 0 then 6 else 0), H') ∧ TB base H' D ln a' k' (remC c l) ∧ Chg (fun b => b = D ∨ In1 a b) H H' ∧ ∀ b, In1 a' b → In1 a b ∨ H.next ≤ b := by
  obtain ⟨H1, e1, n1, g1, k1⟩ := one H c.cells
  have ht1 := ht.keep k1
  obtain ⟨a', k', H', z, q1, q2, q3⟩ := l0 ht1 hl g1 (by omega) l 0 H1 rfl (by omega) (Keep.refl _ _)
  refine ⟨a', k', H', call ⟨_, e1, D, 0, rfl, _, _, _, (rldc' ht1.row 4).trans (tb4 ht.len), z⟩, ?_, (k1.chg0 (S := fun b => b = D ∨ In1 a b)).trans q2 fun _ _ h => h, fun b hb => (q3 b hb).imp_right fun h => by omega⟩
  unfold remC
  simp only [Nat.zero_add] at q1
  exact q1
end F29
end Go.X
