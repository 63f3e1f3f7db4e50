/- What the functions of the queue come to. -/
import Derived.Test.YtnpogbgialgkhaaXzTb0
import Derived.Test.YtnpogbgialgkhaaXzTb1
import Derived.Test.YtnpogbgialgkhaaXzD
import Derived.Test.YtnpogbgialgkhaaXzGo
import Derived.Laws.Strings
set_option linter.unusedVariables false
set_option linter.unusedSimpArgs false
namespace Go.X
open Go Go.RowKit Go.Proofs
noncomputable abbrev Cq := xC Try.prog good
abbrev By := Ints .u8

structure Item where
  to : Int
  a : Option Addr
  n : Nat
  k : Nat
  bs : List Int
def itemCells (l : List Item) : List Value := l.flatMap fun x => [.int .i64 x.to, .slice x.a x.n x.k]
theorem itemCells_append (l m : List Item) : itemCells (l ++ m) = itemCells l ++ itemCells m := by simp [itemCells]
theorem itemCells_len (l : List Item) : (itemCells l).length = l.length * 2 := by
  induction l with
  | nil => rfl
  | cons x l ih => simp only [itemCells, List.flatMap_cons, List.length_append, List.length_cons, List.length_nil] at ih ⊢; omega
/-- A queue, in memory. -/
structure QR (H : Heap) (p : Nat) (most lost : Int) (l : List Item) (a : Option Addr) (n k : Nat) : Prop where
  row : H.get p = .row [.int .i64 most, .slice a n k, .int .i64 lost] true
  lt : p < H.next
  own : Own 0 H 2 a n k (itemCells l)
  apart : ¬In1 a p
  items : ∀ x ∈ l, By H x.a x.n x.k x.bs ∧ ∀ b, In1 x.a b → b ≠ p ∧ ¬In1 a b
section
variable {H H' : Heap} {p : Nat} {most lost : Int} {l : List Item} {a : Option Addr} {n k : Nat} {S : Nat → Prop}
theorem QR.cnt (h : QR H p most lost l a n k) : n = l.length := by have := h.own.len; rw [itemCells_len] at this; omega
theorem QR.chg (h : QR H p most lost l a n k) (c : Chg S H H') (hp : ¬S p) (ha : ∀ b, In1 a b → ¬S b) (hi : ∀ x ∈ l, ∀ b, In1 x.a b → ¬S b) : QR H' p most lost l a n k :=
  ⟨by rw [c.get p h.lt hp]; exact h.row, Nat.lt_of_lt_of_le h.lt c.next, h.own.chg c ha, h.apart, fun x hx => ⟨(h.items x hx).1.chg c (hi x hx), (h.items x hx).2⟩⟩
theorem QR.new (h : QR H p most lost l a n k) (c : Chg (fun _ => False) H H') : QR H' p most lost l a n k := h.chg c (fun h => h) (fun _ _ h => h) fun _ _ _ _ h => h
theorem ldc3 {x y z : Value} {own : Bool} (h : H.get p = .row [x, y, z] own) : ldc H p 0 = some x ∧ ldc H p (0 + 1) = some y ∧ ldc H p (0 + 2) = some z := by
  unfold ldc; rw [h]; exact ⟨rfl, rfl, rfl⟩
theorem stc3 {x y z w : Value} (h : H.get p = .row [x, y, z] true) : stc H p (0 + 1) [w] = some (H.set p (.row [x, w, z] true)) ∧ stc H p (0 + 2) [w] = some (H.set p (.row [x, y, w] true)) := by
  unfold stc; rw [h]; exact ⟨rfl, rfl⟩
end
namespace F33
theorem ok {H : Heap} {a : Option Addr} {n k : Nat} {xs : List Int} (hs : By H a n k xs) (hn : n ≤ 140737488355328) : ∃ a' k' H', Cq 33 [.slice a n k] H = some (.slice a' n k', H') ∧ OwnI .u8 H.next H' a' n k' xs ∧ Keep H.next H H' := by
  by_cases h0 : a.isNone = true
  · have : a = none := by simpa using h0
    subst this
    obtain ⟨hl, ⟨_, rfl, rfl⟩ | ⟨h, _⟩ | ⟨b, o, h, _⟩⟩ := hs
    · refine ⟨none, 0, H, call ?_, ⟨hl, .inl ⟨rfl, rfl, rfl⟩⟩, Keep.refl _ _⟩
      rw [if_pos h0]
    · cases h
    · cases h
  · have e := OwnI.new (K := .u8) H []
    have hk := Keep.push (H := H) (.row [] true) (Nat.le_refl H.next)
    obtain ⟨a', k', H', h1, h2, h3⟩ := OwnI.app 1 e (hs.keep hk) (by simp) (by simp; omega) (by simp; omega)
    simp only [List.length_nil, Nat.zero_add, List.nil_append] at h1 h2
    refine ⟨a', k', H', call ?_, h2, hk.trans h3⟩
    rw [if_neg h0]
    exact ⟨_, rfl, _, _, _, _, h1, rfl⟩
end F33
namespace F13
theorem ok (m : Int) (H : Heap) : ∃ H', Cq 13 [.int .i64 m] H = some (.pointer (some ⟨H.next, 0, none⟩), H') ∧ QR H' H.next (imax 1 (imin m 32)) 0 [] none 0 0 ∧ Keep H.next H H' := by
  refine ⟨H.push (.row [.int .i64 (imax 1 (imin m 32)), .slice none 0 0, .int .i64 0] true), call ⟨_, rfl, rfl⟩, ⟨by simp, by simp, ⟨rfl, .inl ⟨rfl, rfl, rfl⟩⟩, In1.none, fun x hx => by cases hx⟩, Keep.push _ (Nat.le_refl _)⟩
end F13
namespace F14
variable {H : Heap} {p : Nat} {most lost : Int} {l : List Item} {a a2 : Option Addr} {n k n2 k2 : Nat} {xs : List Int}
theorem full (to : Int) (hq : QR H p most lost l a n k) (hf : most ≤ l.length) : ∃ H', Cq 14 [.pointer (some ⟨p, 0, none⟩), .int .i64 to, .slice a2 n2 k2] H = some (.bool false, H') ∧ QR H' p most (imin (IntKind.wrap .i64 (lost + 1)) 1000000) l a n k ∧ Chg (fun b => b = p) H H' := by
  have r := ldc3 hq.row
  have hn := hq.cnt
  have c : Chg (fun b => b = p) H (H.set p (.row [.int .i64 most, .slice a n k, .int .i64 (imin (IntKind.wrap .i64 (lost + 1)) 1000000)] true)) := Chg.set _ rfl
  refine ⟨_, call ?_, ⟨by simp, by simpa using hq.lt, hq.own.chg c fun b hb e => hq.apart (e ▸ hb), hq.apart, fun x hx => ⟨(hq.items x hx).1.chg c fun b hb e => ((hq.items x hx).2 b hb).1 e, (hq.items x hx).2⟩⟩, c⟩
  rw [if_neg (by simp)]
  refine ⟨p, 0, rfl, _, _, _, r.2.1, _, r.1, ?_⟩
  rw [if_pos (by omega)]
  exact ⟨_, r.2.2, _, (stc3 hq.row).2, rfl⟩
theorem ok (to : Int) (hq : QR H p most lost l a n k) (hs : By H a2 n2 k2 xs) (h2 : n2 ≤ 140737488355328) (hm : most ≤ 32) (hr : (l.length : Int) < most) :
    ∃ a' n' k' x H', Cq 14 [.pointer (some ⟨p, 0, none⟩), .int .i64 to, .slice a2 n2 k2] H = some (.bool true, H') ∧ QR H' p most lost (l ++ [x]) a' n' k' ∧ x.to = to ∧ x.bs = xs ∧ Chg (fun b => b = p ∨ In1 a b) H H' ∧ (∀ b, In1 x.a b → H.next ≤ b) ∧ ∀ b, In1 a' b → In1 a b ∨ H.next ≤ b := by
  have r := ldc3 hq.row
  have hn := hq.cnt
  obtain ⟨a5, k5, H2, c2, o2, p2⟩ := F33.ok hs h2
  have p3 : Keep H2.next H2 (H2.push (.row [.int .i64 to, .slice a5 n2 k5] true)) := Keep.push _ (Nat.le_refl _)
  have q2 := hq.new p2.chg0
  have q3 := q2.new p3.chg0
  have on : Sl (H2.push (.row [.int .i64 to, .slice a5 n2 k5] true)) 2 (some ⟨H2.next, 0, none⟩) 1 (UNK 2) [.int .i64 to, .slice a5 n2 k5] := (Own.new (n := 1) rfl).sl
  obtain ⟨a', k', H4, c4, o4, p4, f4⟩ := q3.own.append' (by_ := 32) on (by decide) (Nat.zero_le _) (by omega) (by omega)
  have hp4 : H4.get p = .row [.int .i64 most, .slice a n k, .int .i64 lost] true := by rw [p4.get p q3.lt hq.apart]; exact q3.row
  have lt5 : ∀ b, In1 a5 b → H.next ≤ b ∧ b < H2.next := fun b hb => o2.lt hb
  have c5 : Chg (fun b => b = p) H4 (H4.set p (.row [.int .i64 most, .slice a' (n + 1) k', .int .i64 lost] true)) := Chg.set _ rfl
  have nx : H.next ≤ H2.next := p2.next
  have apart' : ¬In1 a' p := fun h => by
    rcases f4 p h with h | h
    · exact hq.apart h
    · have := hq.lt; simp at h; omega
  refine ⟨a', n + 1, k', ⟨to, a5, n2, k5, xs⟩, H4.set p (.row [.int .i64 most, .slice a' (n + 1) k', .int .i64 lost] true), call ?_, ⟨by simp, Nat.lt_of_lt_of_le q3.lt p4.next, ?_, apart', ?_⟩, rfl, rfl, ?_, fun b hb => (lt5 b hb).1, fun b hb => ?_⟩
  · rw [if_neg (by simp)]
    refine ⟨p, 0, rfl, _, _, _, r.2.1, _, r.1, ?_⟩
    rw [if_neg (by omega)]
    exact ⟨_, _, _, r.2.1, _, _, _, _, c2, _, rfl, _, _, _, _, c4, _, (stc3 hp4).1, (ldc3 q2.row).2.1, (ldc3 q3.row).2.1, rfl⟩
  · have e : itemCells (l ++ [⟨to, a5, n2, k5, xs⟩]) = itemCells l ++ [.int .i64 to, .slice a5 n2 k5] := by rw [itemCells_append]; rfl
    rw [e]
    exact o4.chg c5 fun b hb e => apart' (show In1 a' p from (show b = p from e) ▸ hb)
  · intro x hx
    rcases List.mem_append.1 hx with hx | hx
    · have hi := q3.items x hx
      refine ⟨((hi.1.chg p4 fun b hb => (hi.2 b hb).2).chg c5 fun b hb e => (hi.2 b hb).1 e), fun b hb => ⟨(hi.2 b hb).1, fun h => ?_⟩⟩
      rcases f4 b h with h | h
      · exact (hi.2 b hb).2 h
      · have := hi.1.lt hb; omega
    · simp only [List.mem_singleton] at hx
      subst hx
      have o3 : By (H2.push (.row [.int .i64 to, .slice a5 n2 k5] true)) a5 n2 k5 xs := o2.sl.keep p3
      refine ⟨((o3.chg p4 fun b hb h => ?_).chg c5 fun b hb e => ?_), fun b hb => ⟨fun e => ?_, fun h => ?_⟩⟩
      · have := (lt5 b hb).1; have := hq.own.lt h; omega
      · have := (lt5 b hb).1; have := hq.lt; omega
      · have := (lt5 b hb).1; have := hq.lt; omega
      · rcases f4 b h with h | h
        · have := (lt5 b hb).1; have := hq.own.lt h; omega
        · have := (lt5 b hb).2; simp at h; omega
  · refine ((p2.chg0 (S := fun b => b = p ∨ In1 a b)).trans (p3.chg0 (S := fun b => b = p ∨ In1 a b)) fun _ _ h => h).trans ((p4.weak (T := fun b => b = p ∨ In1 a b) fun b _ h => Or.inr h).trans (c5.weak (T := fun b => b = p ∨ In1 a b) fun b _ h => Or.inl h) fun _ _ h => h) fun _ _ h => h
  · rcases f4 b hb with h | h
    · exact .inl h
    · simp at h; exact .inr (by omega)
end F14

theorem itemCells_take : ∀ (l : List Item) (i : Nat), (itemCells l).take (i * 2) = itemCells (l.take i)
  | [], i => by simp [itemCells]
  | x :: l, 0 => by simp [itemCells]
  | x :: l, i + 1 => by
    have e : itemCells (x :: l) = .int .i64 x.to :: .slice x.a x.n x.k :: itemCells l := rfl
    rw [e, List.take_succ_cons, show (i + 1) * 2 = (i * 2 + 1) + 1 by omega, List.take_succ_cons, List.take_succ_cons, itemCells_take l i]
    rfl
theorem itemCells_drop : ∀ (l : List Item) (i : Nat), (itemCells l).drop (i * 2) = itemCells (l.drop i)
  | [], i => by simp [itemCells]
  | x :: l, 0 => by simp
  | x :: l, i + 1 => by
    have e : itemCells (x :: l) = .int .i64 x.to :: .slice x.a x.n x.k :: itemCells l := rfl
    rw [e, List.drop_succ_cons, show (i + 1) * 2 = (i * 2 + 1) + 1 by omega, List.drop_succ_cons, List.drop_succ_cons, itemCells_drop l i]
namespace F34
theorem ok {H : Heap} {b o n k i : Nat} {l : List Item} (ho : Own 0 H 2 (some ⟨b, o, none⟩) n k (itemCells l)) (hi : i < n) (hn : n ≤ 32) : ∃ H', Cq 34 [.slice (some ⟨b, o, none⟩) n k, .int .i64 (i : Int), .int .i64 ((i + 1 : Nat) : Int)] H = some (.slice (some ⟨b, o, none⟩) (n - 1) k, H') ∧ Own 0 H' 2 (some ⟨b, o, none⟩) (n - 1) k (itemCells (l.eraseIdx i)) ∧ Chg (In1 (some ⟨b, o, none⟩)) H H' := by
  obtain ⟨a1, n1, k1, a2, n2, k2, a3, n3, k3, H1, H2, p1, p2, p3, p4, p5, p6, o2, c2⟩ := ho.del (by_ := 32) (by decide) [.int .i64 0, .slice none 0 0] rfl hi (by omega) (by omega)
  refine ⟨H2, call ⟨_, _, _, p1, ?_⟩, ?_, c2⟩
  · rw [if_neg (by omega)]
    exact ⟨_, _, _, p2, _, _, _, p3, _, _, _, _, p4, _, _, _, p5, _, p6, rfl⟩
  · rw [itemCells_take, itemCells_drop, ← itemCells_append] at o2
    rw [List.eraseIdx_eq_take_drop_succ]
    exact o2
end F34
namespace F20
theorem ok {H : Heap} {p : Nat} {most lost : Int} {l : List Item} {a : Option Addr} {n k : Nat} (hq : QR H p most lost l a n k) : Cq 20 [.pointer (some ⟨p, 0, none⟩)] H = some (.int .i64 lost, H) := by
  refine call ?_
  rw [if_neg (by simp)]
  exact ⟨p, 0, rfl, _, (ldc3 hq.row).2.2, rfl⟩
end F20
namespace F19
theorem ok {H : Heap} {p : Nat} {most lost : Int} {l : List Item} {a : Option Addr} {n k : Nat} (hq : QR H p most lost l a n k) : Cq 19 [.pointer (some ⟨p, 0, none⟩)] H = some (.int .i64 ((l.length : Nat) : Int), H) := by
  refine call ?_
  rw [if_neg (by simp)]
  refine ⟨p, 0, rfl, _, _, _, (ldc3 hq.row).2.1, ?_⟩
  rw [hq.cnt]
end F19
theorem itemCells_get {l : List Item} {i : Nat} {x : Item} (h : l[i]? = some x) : (itemCells l)[i * 2]? = some (.int .i64 x.to) ∧ (itemCells l)[i * 2 + 1]? = some (.slice x.a x.n x.k) := by
  obtain ⟨hi, hx⟩ := List.getElem?_eq_some_iff.1 h
  have hd : l.drop i = x :: l.drop (i + 1) := by rw [List.drop_eq_getElem_cons hi, hx]
  have e := itemCells_drop l i
  rw [hd] at e
  have g : ∀ j, (itemCells l)[i * 2 + j]? = (itemCells (x :: l.drop (i + 1)))[j]? := fun j => by rw [← e, List.getElem?_drop]
  exact ⟨g 0, g 1⟩
theorem QR.to {H : Heap} {p : Nat} {most lost : Int} {l : List Item} {b o n k : Nat} (hq : QR H p most lost l (some ⟨b, o, none⟩) n k) {i : Nat} {x : Item} (h : l[i]? = some x) : ldc H b (o + Int.toNat (i : Int) * 2) = some (.int .i64 x.to) ∧ ldc H b (o + Int.toNat (i : Int) * 2 + 1) = some (.slice x.a x.n x.k) := by
  have s := hq.own.sl.seg
  rw [Int.toNat_natCast]
  exact ⟨s.ldc (itemCells_get h).1, by rw [Nat.add_assoc]; exact s.ldc (itemCells_get h).2⟩
namespace F17
variable {H : Heap} {p : Nat} {most lost : Int} {l : List Item} {a : Option Addr} {n k : Nat}
theorem out (hq : QR H p most lost l a n k) (t : Int) (ht : t < 0 ∨ (l.length : Int) ≤ t) : Cq 17 [.pointer (some ⟨p, 0, none⟩), .int .i64 t] H = some (.tuple #[.slice none 0 0, .bool false], H) := by
  have bad : L0 (some ⟨p, 0, none⟩) t true H (.tuple #[.slice none 0 0, .bool false], H) := L0_step (by rw [if_pos rfl])
  have hn := hq.cnt
  refine call ?_
  rw [if_neg (by simp)]
  by_cases h : t < 0
  · rw [if_pos h]; exact bad
  · rw [if_neg h]
    refine ⟨p, 0, rfl, _, _, _, (ldc3 hq.row).2.1, ?_⟩
    rw [decide_eq_true (by omega)]
    exact bad
theorem ok (hq : QR H p most lost l a n k) {i : Nat} {x : Item} (hx : l[i]? = some x) (hs : x.n ≤ 140737488355328) : ∃ a' k' H', Cq 17 [.pointer (some ⟨p, 0, none⟩), .int .i64 (i : Int)] H = some (.tuple #[.slice a' x.n k', .bool true], H') ∧ OwnI .u8 H.next H' a' x.n k' x.bs ∧ Keep H.next H H' := by
  have hn := hq.cnt
  have hi := (List.getElem?_eq_some_iff.1 hx).1
  obtain ⟨b, o, rfl⟩ := hq.own.sl.at (by omega)
  obtain ⟨a', k', H', c, ow, kp⟩ := F33.ok (hq.items x (List.mem_of_getElem? hx)).1 hs
  refine ⟨a', k', H', call ?_, ow, kp⟩
  rw [if_neg (by simp), if_neg (by omega)]
  refine ⟨p, 0, rfl, _, _, _, (ldc3 hq.row).2.1, ?_⟩
  rw [decide_eq_false (by omega)]
  refine L0_step ?_
  rw [if_neg (by decide)]
  exact ⟨p, 0, rfl, _, _, _, (ldc3 hq.row).2.1, b, o, rfl, by omega, by omega, _, _, _, (hq.to hx).2, _, _, _, _, c, rfl⟩
end F17
namespace F18
variable {H : Heap} {p : Nat} {most lost : Int} {l : List Item} {a : Option Addr} {n k : Nat}
theorem out (hq : QR H p most lost l a n k) (t : Int) (ht : t < 0 ∨ (l.length : Int) ≤ t) : Cq 18 [.pointer (some ⟨p, 0, none⟩), .int .i64 t] H = some (.tuple #[.slice none 0 0, .bool false], H) := by
  refine call ⟨_, _, _, _, _, F17.out hq t ht, ?_⟩
  rw [if_neg (by decide)]
theorem ok (hq : QR H p most lost l a n k) {i : Nat} {x : Item} (hx : l[i]? = some x) (hs : x.n ≤ 140737488355328) (hl : l.length ≤ 32) :
    ∃ a' k' H' a2 n2 k2, Cq 18 [.pointer (some ⟨p, 0, none⟩), .int .i64 (i : Int)] H = some (.tuple #[.slice a' x.n k', .bool true], H') ∧ By H' a' x.n k' x.bs ∧ QR H' p most lost (l.eraseIdx i) a2 n2 k2 ∧ Chg (fun b => b = p ∨ In1 a b) H H' ∧ (∀ b, In1 a2 b → In1 a b) ∧ ∀ b, In1 a' b → H.next ≤ b := by
  have hn := hq.cnt
  have hi := (List.getElem?_eq_some_iff.1 hx).1
  obtain ⟨b, o, rfl⟩ := hq.own.sl.at (by omega)
  obtain ⟨a', k', H1, c1, o1, p1⟩ := F17.ok hq hx hs
  have q1 := hq.new p1.chg0
  obtain ⟨H2, c2, o2, g2⟩ := F34.ok q1.own (i := i) (by omega) (by omega)
  have hp2 : H2.get p = .row [.int .i64 most, .slice (some ⟨b, o, none⟩) n k, .int .i64 lost] true := by rw [g2.get p q1.lt hq.apart]; exact q1.row
  have c5 : Chg (fun b => b = p) H2 (H2.set p (.row [.int .i64 most, .slice (some ⟨b, o, none⟩) (n - 1) k, .int .i64 lost] true)) := Chg.set _ rfl
  have lt1 : ∀ c, In1 a' c → H.next ≤ c := fun c hc => (o1.lt hc).1
  refine ⟨a', k', H2.set p (.row [.int .i64 most, .slice (some ⟨b, o, none⟩) (n - 1) k, .int .i64 lost] true), some ⟨b, o, none⟩, n - 1, k, call ⟨_, _, _, _, _, c1, ?_⟩, ?_, ⟨by simp, Nat.lt_of_lt_of_le q1.lt g2.next, ?_, hq.apart, ?_⟩, ?_, fun _ h => h, lt1⟩
  · rw [if_pos rfl]
    refine ⟨p, 0, rfl, _, _, _, (ldc3 q1.row).2.1, ?_⟩
    rw [i64 (by omega) (by omega)]
    exact ⟨_, _, _, _, c2, _, (stc3 hp2).1, rfl⟩
  · refine (Sl.chg o1.sl g2 fun c hc h => ?_).chg c5 fun c hc h => ?_
    · have := lt1 c hc; have := hq.own.lt h; omega
    · have := lt1 c hc; have := hq.lt; omega
  · exact o2.chg c5 fun c hc h => hq.apart ((show c = p from h) ▸ hc)
  · intro y hy
    have hm := List.mem_of_mem_eraseIdx hy
    have hi := q1.items y hm
    exact ⟨(hi.1.chg g2 fun c hc => (hi.2 c hc).2).chg c5 fun c hc h => (hi.2 c hc).1 h, hi.2⟩
  · exact (p1.chg0 (S := fun c => c = p ∨ In1 (some ⟨b, o, none⟩) c)).trans ((g2.weak (T := fun c => c = p ∨ In1 (some ⟨b, o, none⟩) c) fun c _ h => Or.inr h).trans (c5.weak (T := fun c => c = p ∨ In1 (some ⟨b, o, none⟩) c) fun c _ h => Or.inl h) fun _ _ h => h) fun _ _ h => h
end F18
theorem stc2 {H : Heap} {p : Nat} {x y u v : Value} (h : H.get p = .row [x, y] true) : stc H p 0 [u, v] = some (H.set p (.row [u, v] true)) := by unfold stc; rw [h]; rfl
theorem ldc2 {H : Heap} {p : Nat} {x y : Value} {own : Bool} (h : H.get p = .row [x, y] own) : ldc H p 0 = some x := by unfold ldc; rw [h]; rfl
namespace F16
theorem l0 {G : Heap} {p : Nat} {most lost : Int} {l : List Item} {b o n k : Nat} (hq : QR G p most lost l (some ⟨b, o, none⟩) n k) (hl : l.length ≤ 32) : ∀ (rest : List Item) (j : Nat) (H : Heap) (a3 : Option Addr) (k3 : Nat), l.drop j = rest → j + rest.length = n → Keep G.next G H → OwnI .i64 G.next H a3 j k3 ((l.take j).map Item.to) →
    ∃ a' k' H', L0 a3 j k3 (some ⟨b, o, none⟩) n k (n : Int) (j : Int) H (.slice a' n k', H') ∧ OwnI .i64 G.next H' a' n k' (l.map Item.to) ∧ Keep G.next H H' := by
  have hn := hq.cnt
  intro rest
  induction rest with
  | nil =>
    intro j H a3 k3 hd hj hp ho
    simp only [List.length_nil] at hj
    have e : j = n := by omega
    subst e
    rw [List.take_of_length_le (by omega)] at ho
    refine ⟨a3, k3, H, L0_step ?_, ho, Keep.refl _ _⟩
    rw [if_neg (by omega)]
  | cons x rest ih =>
    intro j H a3 k3 hd hj hp ho
    simp only [List.length_cons] at hj
    have hx := drop_get hd
    have q := hq.new (hp.chg0)
    have hN := hp.next
    generalize e1 : H.push (.row [.int .i64 0, .slice none 0 0] true) = H1
    have g1 : H1.get H.next = .row [.int .i64 0, .slice none 0 0] true := by rw [← e1]; simp
    have p1 : Keep H.next H H1 := by rw [← e1]; exact Keep.push _ (Nat.le_refl _)
    have n1 : H1.next = H.next + 1 := by rw [← e1]; rfl
    generalize e2 : H1.set H.next (.row [.int .i64 x.to, .slice x.a x.n x.k] true) = H2
    have g2 : H2.get H.next = .row [.int .i64 x.to, .slice x.a x.n x.k] true := by rw [← e2]; simp
    have p2 : Keep H.next H1 H2 := by rw [← e2]; exact Keep.set _ (Nat.le_refl _)
    have n2 : H2.next = H1.next := by rw [← e2]; rfl
    have o2 := ho.keep (p1.trans p2)
    have p3 : Keep H2.next H2 (H2.push (.row [.int .i64 x.to] true)) := Keep.push _ (Nat.le_refl _)
    have on := (OwnI.new (K := .i64) H2 [x.to]).sl
    obtain ⟨a4, k4, H4, c4, o4, p4⟩ := OwnI.app 8 (o2.keep p3) on (by simp; omega) (by simp; omega) (by simp; omega)
    have hk : Keep G.next H H4 := ((p1.weak hN).trans (p2.weak hN)).trans ((p3.weak (by omega)).trans p4)
    have et : (l.take (j + 1)).map Item.to = (l.take j).map Item.to ++ [x.to] := by rw [List.take_add_one, hx]; simp
    obtain ⟨a', k', H', z1, z2, z3⟩ := ih (j + 1) H4 a4 k4 (drop_next hd) (by omega) (hp.trans hk) (by rw [et]; exact o4)
    refine ⟨a', k', H', L0_step ?_, z2, hk.trans z3⟩
    rw [if_pos (by omega)]
    refine ⟨b, o, rfl, by omega, by omega, x.to, x.a, x.n, x.k, ⟨(q.to hx).1, (q.to hx).2, trivial⟩, H1, e1.symm, H2, ?_, x.to, ldc2 g2, _, rfl, _, _, _, _, c4, ?_⟩
    · rw [stc2 g1]; exact congrArg some e2
    · rw [i64 (by omega) (by omega)]
      exact_mod_cast z1
theorem ok {H : Heap} {p : Nat} {most lost : Int} {l : List Item} {a : Option Addr} {n k : Nat} (hq : QR H p most lost l a n k) (hl : l.length ≤ 32) :
    ∃ a' k' H', Cq 16 [.pointer (some ⟨p, 0, none⟩)] H = some (.slice a' l.length k', H') ∧ OwnI .i64 H.next H' a' l.length k' (l.map Item.to) ∧ Keep H.next H H' := by
  have hn := hq.cnt
  by_cases h0 : l = []
  · subst h0
    refine ⟨none, 0, H, call ?_, OwnI.nil, Keep.refl _ _⟩
    rw [if_neg (by simp)]
    refine ⟨p, 0, rfl, _, _, _, (ldc3 hq.row).2.1, ?_⟩
    refine L0_step ?_
    simp only [List.length_nil] at hn
    rw [if_neg (by omega)]
    rfl
  · have hpos := List.length_pos_iff.2 h0
    obtain ⟨b, o, rfl⟩ := hq.own.sl.at (by omega)
    obtain ⟨a', k', H', z1, z2, z3⟩ := l0 hq hl l 0 H none 0 (by simp) (by omega) (Keep.refl _ _) OwnI.nil
    rw [← hn]
    refine ⟨a', k', H', call ?_, z2, z3⟩
    rw [if_neg (by simp)]
    exact ⟨p, 0, rfl, _, _, _, (ldc3 hq.row).2.1, z1⟩
end F16
end Go.X
