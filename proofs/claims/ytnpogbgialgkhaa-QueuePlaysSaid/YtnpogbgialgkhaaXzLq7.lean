/- The law of the queue: any calls: two queues side by side. -/
import Derived.Test.YtnpogbgialgkhaaXzLq6
set_option linter.unusedVariables false
set_option linter.unusedSimpArgs false
namespace Go.X
open Go Go.RowKit Go.Proofs
/-- What a call on one queue turns. -/
structure Op (H H' : Heap) (p : Nat) (a a' : Option Addr) (l l' : List Item) : Prop where
  chg : Chg (fun b => b = p ∨ In1 a b) H H'
  arr : ∀ b, In1 a' b → In1 a b ∨ H.next ≤ b
  its : ∀ x ∈ l', ∀ b, In1 x.a b → (∃ y ∈ l, In1 y.a b) ∨ H.next ≤ b
/-- Two queues that lie apart. -/
structure Aprt (p : Nat) (a : Option Addr) (l : List Item) (p2 : Nat) (a2 : Option Addr) (l2 : List Item) : Prop where
  one : ∀ b, (b = p ∨ In1 a b) → b ≠ p2 ∧ ¬In1 a2 b ∧ ∀ y ∈ l2, ¬In1 y.a b
  two : ∀ b, (b = p2 ∨ In1 a2 b) → b ≠ p ∧ ¬In1 a b ∧ ∀ y ∈ l, ¬In1 y.a b
theorem Aprt.symm {p p2 : Nat} {a a2 : Option Addr} {l l2 : List Item} (h : Aprt p a l p2 a2 l2) : Aprt p2 a2 l2 p a l := ⟨h.two, h.one⟩
section
variable {H H' : Heap} {p p2 : Nat} {most lost most2 lost2 : Int} {l l' l2 : List Item} {a a' a2 : Option Addr} {n k n2 k2 : Nat}
theorem Aprt.op (h : Aprt p a l p2 a2 l2) (q2 : QR H p2 most2 lost2 l2 a2 n2 k2) (o : Op H H' p a a' l l') : QR H' p2 most2 lost2 l2 a2 n2 k2 ∧ Aprt p a' l' p2 a2 l2 := by
  refine ⟨q2.chg o.chg (fun c => (h.one p2 c).1 rfl) (fun b hb c => (h.one b c).2.1 hb) (fun y hy b hb c => (h.one b c).2.2 y hy hb), ⟨fun b hb => ?_, fun b hb => ⟨(h.two b hb).1, fun c => ?_, fun y hy c => ?_⟩⟩⟩
  · rcases hb with rfl | hb
    · exact h.one b (.inl rfl)
    · rcases o.arr b hb with hb | hb
      · exact h.one b (.inr hb)
      · refine ⟨fun e => by have := q2.lt; omega, fun e => by have := q2.own.lt e; omega, fun y hy e => by have := (q2.items y hy).1.lt e; omega⟩
  · rcases o.arr b c with c | c
    · exact (h.two b hb).2.1 c
    · rcases hb with rfl | hb
      · have := q2.lt; omega
      · have := q2.own.lt hb; omega
  · rcases o.its y hy b c with ⟨z, hz, c⟩ | c
    · exact (h.two b hb).2.2 z hz c
    · rcases hb with rfl | hb
      · have := q2.lt; omega
      · have := q2.own.lt hb; omega
end
section
variable {H : Heap} {p : Nat} {most lost : Int} {l : List Item} {a a2 : Option Addr} {n k n2 k2 : Nat} {xs : List Int}
theorem F14.opFull (to : Int) (hq : QR H p most lost l a n k) (hf : most ≤ l.length) : ∃ H', Cq 14 [.pointer (some ⟨p, 0, none⟩), .int .i64 to, .slice a2 n2 k2] H = some (.bool false, H') ∧ QR H' p most (imin (IntKind.wrap .i64 (lost + 1)) 1000000) l a n k ∧ Op H H' p a a l l := by
  obtain ⟨H', c, q, g⟩ := F14.full (a2 := a2) (n2 := n2) (k2 := k2) to hq hf
  exact ⟨H', c, q, g.weak fun b _ h => .inl h, fun b h => .inl h, fun x hx b h => .inl ⟨x, hx, h⟩⟩
theorem F14.opOk (to : Int) (hq : QR H p most lost l a n k) (hs : By H a2 n2 k2 xs) (h2 : n2 ≤ 140737488355328) (hm : most ≤ 32) (hr : (l.length : Int) < most) :
    ∃ a' n' k' x H', Cq 14 [.pointer (some ⟨p, 0, none⟩), .int .i64 to, .slice a2 n2 k2] H = some (.bool true, H') ∧ QR H' p most lost (l ++ [x]) a' n' k' ∧ x.v = (to, xs) ∧ Op H H' p a a' l (l ++ [x]) := by
  obtain ⟨a', n', k', x, H', c, q, e1, e2, g, f1, f2⟩ := F14.ok to hq hs h2 hm hr
  refine ⟨a', n', k', x, H', c, q, by rw [← e1, ← e2]; rfl, g, f2, fun y hy b h => ?_⟩
  rcases List.mem_append.1 hy with hy | hy
  · exact .inl ⟨y, hy, h⟩
  · simp only [List.mem_singleton] at hy
    subst hy
    exact .inr (f1 b h)
theorem F15.opOk (f t : Int) (hq : QR H p most lost l a n k) (hl : l.length ≤ 32) :
    ∃ H', Cq 15 [.pointer (some ⟨p, 0, none⟩), .int .i64 f, .int .i64 t] H = some (.int .i64 ((l.countP (fun x => x.to = f) : Nat) : Int), H') ∧ QR H' p most lost (l.map (Item.mv f t)) a n k ∧ Op H H' p a a l (l.map (Item.mv f t)) := by
  obtain ⟨H', c, q, g⟩ := F15.ok f t hq hl
  refine ⟨H', c, q, g.weak fun b _ h => .inr h, fun b h => .inl h, fun x hx b h => ?_⟩
  obtain ⟨y, hy, rfl⟩ := List.mem_map.1 hx
  refine .inl ⟨y, hy, ?_⟩
  unfold Item.mv at h
  split at h <;> exact h
theorem F18.opOk (hq : QR H p most lost l a n k) {i : Nat} {x : Item} (hx : l[i]? = some x) (hs : x.n ≤ 140737488355328) (hl : l.length ≤ 32) :
    ∃ a' k' H' a2 n2 k2, Cq 18 [.pointer (some ⟨p, 0, none⟩), .int .i64 (i : Int)] H = some (.tuple #[.slice a' x.n k', .bool true], H') ∧ By H' a' x.n k' x.bs ∧ QR H' p most lost (l.eraseIdx i) a2 n2 k2 ∧ Op H H' p a a2 l (l.eraseIdx i) ∧ ∀ b, In1 a' b → H.next ≤ b := by
  obtain ⟨a', k', H', a2, n2, k2, c, o, q, g, f1, f2⟩ := F18.ok hq hx hs hl
  exact ⟨a', k', H', a2, n2, k2, c, o, q, ⟨g, fun b h => .inl (f1 b h), fun y hy b h => .inl ⟨y, List.mem_of_mem_eraseIdx hy, h⟩⟩, f2⟩
end
namespace F29
theorem ok (m : Int) (H : Heap) : ∃ H', Cq 29 [.int .i64 m] H = some (.pointer (some ⟨H.next, 0, none⟩), H') ∧ QR H' H.next (imax 1 (imin m 32)) 0 [] none 0 0 ∧ Keep H.next H H' := by
  refine ⟨H.push (.row [.int .i64 (imax 1 (imin m 32)), .slice none 0 0, .int .i64 0] true), call ⟨_, rfl, rfl⟩, ⟨by simp, by simp, ⟨rfl, .inl ⟨rfl, rfl, rfl⟩⟩, In1.none, fun x hx => by cases hx⟩, Keep.push _ (Nat.le_refl _)⟩
end F29
namespace F30
variable {H : Heap} {p : Nat} {most lost : Int} {l : List Item} {a a2 : Option Addr} {n k n2 k2 : Nat} {xs : List Int}
theorem opFull (to : Int) (hq : QR H p most lost l a n k) (hf : most ≤ l.length) : ∃ H', Cq 30 [.pointer (some ⟨p, 0, none⟩), .int .i64 to, .slice a2 n2 k2] H = some (.bool false, H') ∧ QR H' p most (imin (IntKind.wrap .i64 (lost + 1)) 1000000) l a n k ∧ Op H H' p a a l l := by
  have r := ldc3 hq.row
  have hn := hq.cnt
  have c : Chg (fun b => b = p) H (H.set p (.row [.int .i64 most, .slice a n k, .int .i64 (imin (IntKind.wrap .i64 (lost + 1)) 1000000)] true)) := Chg.set _ rfl
  refine ⟨_, call ?_, ⟨by simp, by simpa using hq.lt, hq.own.chg c fun b hb e => hq.apart (e ▸ hb), hq.apart, fun x hx => ⟨(hq.items x hx).1.chg c fun b hb e => ((hq.items x hx).2 b hb).1 e, (hq.items x hx).2⟩⟩, ⟨c.weak fun b _ h => .inl h, fun b h => .inl h, fun x hx b h => .inl ⟨x, hx, h⟩⟩⟩
  refine ⟨p, 0, rfl, _, _, _, r.2.1, _, r.1, ?_⟩
  rw [if_pos (by omega)]
  exact ⟨_, r.2.2, _, (stc3 hq.row).2, rfl⟩
theorem opOk (to : Int) (hq : QR H p most lost l a n k) (hs : By H a2 n2 k2 xs) (h2 : n2 ≤ 140737488355328) (hm : most ≤ 32) (hr : (l.length : Int) < most) :
    ∃ a' n' k' x H', Cq 30 [.pointer (some ⟨p, 0, none⟩), .int .i64 to, .slice a2 n2 k2] H = some (.bool true, H') ∧ QR H' p most lost (l ++ [x]) a' n' k' ∧ x.v = (to, xs) ∧ Op H H' p a a' l (l ++ [x]) := by
  have r := ldc3 hq.row
  have hn := hq.cnt
  have hp := hq.lt
  have e0 : Own H.next H 2 none 0 0 [] := ⟨rfl, .inl ⟨rfl, rfl, rfl⟩⟩
  obtain ⟨a1, k1, H1, c1, o1, g1, f1⟩ := e0.append' (by_ := 32) hq.own.sl (by decide) (Nat.le_refl _) (by omega) (by omega)
  simp only [Nat.zero_add, List.nil_append] at c1 o1
  have p1 : Keep H.next H H1 := g1.keep (Nat.le_refl _) fun b _ h => absurd h In1.none
  have q1 := hq.new p1.chg0
  have n1 := p1.next
  obtain ⟨a5, k5, H2, c2, o2, p2⟩ := OwnI.app (K := .u8) (base := H1.next) 1 OwnI.nil (hs.keep p1) (Nat.le_refl _) (by omega) (by omega)
  simp only [Nat.zero_add, List.nil_append] at c2 o2
  have nx := p2.next
  have p3 : Keep H2.next H2 (H2.push (.row [.int .i64 to, .slice a5 n2 k5] true)) := Keep.push _ (Nat.le_refl _)
  have q3 := (q1.new p2.chg0).new p3.chg0
  have on : Sl (H2.push (.row [.int .i64 to, .slice a5 n2 k5] true)) 2 (some ⟨H2.next, 0, none⟩) 1 (UNK 2) [.int .i64 to, .slice a5 n2 k5] := (Own.new (n := 1) rfl).sl
  have o1' := (o1.keep p2).keep p3
  obtain ⟨a', k', H4, c4, o4, g4, f4⟩ := o1'.append' (by_ := 32) on (by decide) (by simp; omega) (by omega) (by omega)
  have la1 : ∀ b, In1 a1 b → H.next ≤ b ∧ b < H1.next := fun b hb => o1.lt hb
  have g4k : Chg (fun b => H.next ≤ b) (H2.push (.row [.int .i64 to, .slice a5 n2 k5] true)) H4 := g4.weak fun b _ h => (la1 b h).1
  have hp4 : H4.get p = .row [.int .i64 most, .slice a n k, .int .i64 lost] true := by rw [g4.get p q3.lt fun h => by have := la1 p h; omega]; exact q3.row
  have lt5 : ∀ b, In1 a5 b → H1.next ≤ b ∧ b < H2.next := fun b hb => o2.lt hb
  have fa : ∀ b, In1 a' b → H.next ≤ b ∧ (b < H1.next ∨ H2.next < b) := fun b hb => by
    rcases f4 b hb with h | h
    · have := la1 b h; omega
    · simp at h; omega
  have c5 : Chg (fun b => b = p) H4 (H4.set p (.row [.int .i64 most, .slice a' (n + 1) k', .int .i64 lost] true)) := Chg.set _ rfl
  refine ⟨a', n + 1, k', ⟨to, a5, n2, k5, xs⟩, H4.set p (.row [.int .i64 most, .slice a' (n + 1) k', .int .i64 lost] true), call ?_, ⟨by simp, Nat.lt_of_lt_of_le q3.lt g4.next, ?_, fun h => by have := fa p h; omega, ?_⟩, rfl, ⟨?_, fun b hb => .inr (fa b hb).1, ?_⟩⟩
  · refine ⟨p, 0, rfl, _, _, _, r.2.1, _, r.1, ?_⟩
    rw [if_neg (by omega)]
    exact ⟨_, _, _, r.2.1, _, _, _, _, c1, _, _, _, _, c2, _, rfl, _, _, _, _, c4, _, (stc3 hp4).1, rfl⟩
  · have e : itemCells (l ++ [⟨to, a5, n2, k5, xs⟩]) = itemCells l ++ [.int .i64 to, .slice a5 n2 k5] := by rw [itemCells_append]; rfl
    rw [e]
    exact (o4.weak (Nat.zero_le _)).chg c5 fun b hb e => by have := fa b hb; have e : b = p := e; omega
  · intro x hx
    rcases List.mem_append.1 hx with hx | hx
    · have hi := q3.items x hx
      have hi0 := hq.items x hx
      refine ⟨((hi.1.chg g4k fun b hb h => ?_).chg c5 fun b hb e => (hi.2 b hb).1 e), fun b hb => ⟨(hi.2 b hb).1, fun h => ?_⟩⟩
      · have := hi0.1.lt hb; have h : H.next ≤ b := h; omega
      · have := hi0.1.lt hb; have := fa b h; omega
    · simp only [List.mem_singleton] at hx
      subst hx
      have o3 : By (H2.push (.row [.int .i64 to, .slice a5 n2 k5] true)) a5 n2 k5 xs := o2.sl.keep p3
      refine ⟨((o3.chg g4 fun b hb h => ?_).chg c5 fun b hb e => ?_), fun b hb => ⟨fun e => ?_, fun h => ?_⟩⟩
      · have := lt5 b hb; have := la1 b h; omega
      · have := lt5 b hb; have e : b = p := e; omega
      · have := lt5 b hb; omega
      · have := lt5 b hb; have := fa b h; omega
  · have c24 : Chg (fun b => H.next ≤ b) H1 H4 := (p2.chg0 (S := fun b => H.next ≤ b)).trans ((p3.chg0 (S := fun b => H.next ≤ b)).trans g4k fun _ _ h => h) fun _ _ h => h
    exact (p1.chg0 (S := fun b => b = p ∨ In1 a b)).trans ((c24.weak (T := fun b => H.next ≤ b ∨ b = p) fun b _ h => .inl h).trans c5 fun _ _ h => .inr h) fun b hb h => by
      rcases h with h | h
      · omega
      · exact .inl h
  · intro x hx b hb
    rcases List.mem_append.1 hx with hx | hx
    · exact .inl ⟨x, hx, hb⟩
    · simp only [List.mem_singleton] at hx
      subst hx
      have := lt5 b hb
      exact .inr (by omega)
end F30
namespace F31
variable {H : Heap} {p : Nat} {most lost : Int} {l : List Item} {a : Option Addr} {n k : Nat}
theorem out (hq : QR H p most lost l a n k) (t : Int) (ht : t < 0 ∨ (l.length : Int) ≤ t) : Cq 31 [.pointer (some ⟨p, 0, none⟩), .int .i64 t] H = some (.tuple #[.slice none 0 0, .bool false], H) := by
  have hn := hq.cnt
  refine call ?_
  by_cases h : t < 0
  · rw [if_pos h]
    exact L0_step (by rw [if_pos rfl])
  · rw [if_neg h]
    refine ⟨p, 0, rfl, _, _, _, (ldc3 hq.row).2.1, L0_step ?_⟩
    rw [if_pos (decide_eq_true (by omega))]
theorem opOk (hq : QR H p most lost l a n k) {i : Nat} {x : Item} (hx : l[i]? = some x) (hs : x.n ≤ 140737488355328) (hl : l.length ≤ 32) :
    ∃ H' a2 n2 k2, Cq 31 [.pointer (some ⟨p, 0, none⟩), .int .i64 (i : Int)] H = some (.tuple #[.slice x.a x.n x.k, .bool true], H') ∧ By H' x.a x.n x.k x.bs ∧ QR H' p most lost (l.eraseIdx i) a2 n2 k2 ∧ Op H H' p a a2 l (l.eraseIdx i) := by
  have hn := hq.cnt
  have hp := hq.lt
  have hi := (List.getElem?_eq_some_iff.1 hx).1
  obtain ⟨b, o, rfl⟩ := hq.own.sl.at (by omega)
  obtain ⟨a1, k1, c1, s1⟩ := hq.own.sl.part none (some (i : Int)) 0 i (.inl ⟨rfl, rfl⟩) (.inr rfl) (Nat.zero_le _) (by omega)
  obtain ⟨a3, k3, c3, s3⟩ := hq.own.sl.part (some ((i + 1 : Nat) : Int)) none (i + 1) n (.inr rfl) (.inl ⟨rfl, rfl⟩) (by omega) (Nat.le_refl _)
  simp only [Nat.sub_zero, Nat.zero_mul, List.drop_zero] at c1 s1
  rw [itemCells_take] at s1
  have e3 : ((itemCells l).drop ((i + 1) * 2)).take ((n - (i + 1)) * 2) = itemCells (l.drop (i + 1)) := by
    rw [itemCells_drop, List.take_of_length_le (by rw [itemCells_len]; simp; omega)]
  rw [e3] at s3
  have e0 : Own H.next H 2 none 0 0 [] := ⟨rfl, .inl ⟨rfl, rfl, rfl⟩⟩
  obtain ⟨a4, k4, H1, c4, o4, p4⟩ := e0.append (by_ := 32) s1 (by decide) (Nat.le_refl _) (by omega) (by omega)
  simp only [Nat.zero_add, List.nil_append] at c4 o4
  obtain ⟨a5, k5, H2, c5, o5, p5⟩ := o4.append (by_ := 32) (s3.keep p4) (by decide) p4.next (by omega) (by omega)
  rw [← itemCells_append, ← List.eraseIdx_eq_take_drop_succ] at o5
  have p2 := p4.trans p5
  have q2 := hq.new p2.chg0
  have q1 := hq.new p4.chg0
  have c6 : Chg (fun b => b = p) H2 (H2.set p (.row [.int .i64 most, .slice a5 (i + (n - (i + 1))) k5, .int .i64 lost] true)) := Chg.set _ rfl
  have fa : ∀ b, In1 a5 b → H.next ≤ b := fun b hb => (o5.lt hb).1
  have hxi := hq.items x (List.mem_of_getElem? hx)
  refine ⟨H2.set p (.row [.int .i64 most, .slice a5 (i + (n - (i + 1))) k5, .int .i64 lost] true), a5, i + (n - (i + 1)), k5, call ?_, ?_, ⟨by simp, by simpa using q2.lt, ?_, fun h => by have := fa p h; omega, ?_⟩, ⟨?_, fun b h => .inr (fa b h), fun y hy b h => .inl ⟨y, List.mem_of_mem_eraseIdx hy, h⟩⟩⟩
  · rw [if_neg (by omega)]
    refine ⟨p, 0, rfl, _, _, _, (ldc3 hq.row).2.1, L0_step ?_⟩
    rw [decide_eq_false (by omega), if_neg (by decide)]
    refine ⟨p, 0, rfl, _, _, _, (ldc3 hq.row).2.1, b, o, rfl, by omega, by omega, _, _, _, (hq.to hx).2, _, _, _, (ldc3 hq.row).2.1, _, _, _, c1, _, _, _, _, c4, _, _, _, (ldc3 hq.row).2.1, _, _, _, ?_, _, _, _, _, c5, _, (stc3 q2.row).1, (ldc3 q1.row).2.1, rfl⟩
    rw [i64 (by omega) (by omega)]
    exact c3
  · exact (hxi.1.keep p2).chg c6 fun b hb h => (hxi.2 b hb).1 h
  · exact (o5.weak (Nat.zero_le _)).chg c6 fun b hb h => by have := fa b hb; have h : b = p := h; omega
  · intro y hy
    have hi := hq.items y (List.mem_of_mem_eraseIdx hy)
    exact ⟨(hi.1.keep p2).chg c6 fun c hc h => (hi.2 c hc).1 h, fun c hc => ⟨(hi.2 c hc).1, fun h => by have := fa c h; have := hi.1.lt hc; omega⟩⟩
  · exact (p2.chg0 (S := fun c => c = p ∨ In1 (some ⟨b, o, none⟩) c)).trans c6 fun c _ h => .inl h
end F31
end Go.X
