/- What moving comes to. -/
import Derived.Test.YtnpogbgialgkhaaXzLq
set_option linter.unusedVariables false
set_option linter.unusedSimpArgs false
namespace Go.X
open Go Go.RowKit Go.Proofs
/-- Writing one cell. -/
theorem Own.putc {base : Nat} {H : Heap} {z n k b o : Nat} {vs : List Value} (h : Own base H z (some ⟨b, o, none⟩) n k vs) {c : Nat} (hc : c < vs.length) (v : Value) :
    ∃ H', stc H b (o + c) [v] = some H' ∧ Own base H' z (some ⟨b, o, none⟩) n k (vs.set c v) ∧ Chg (In1 (some ⟨b, o, none⟩)) H H' ∧ H'.next = H.next := by
  obtain ⟨hl, ⟨h0, _⟩ | ⟨b', o', cs, h1, h2, h3, h4, h5, h6, h7⟩⟩ := h
  · cases h0
  · cases h1
    unfold stc
    rw [h5]
    simp only [List.length_cons, List.length_nil]
    rw [if_pos (by omega)]
    refine ⟨_, rfl, ⟨by simpa using hl, .inr ⟨b, o, setMany cs (o + c) [v], rfl, h2, h3, by simpa using h4, Heap.get_set_same _ _ _, by rw [setMany_length]; omega, ?_⟩⟩, Chg.set _ (In1.eq.2 rfl), rfl⟩
    simp only [setMany]
    rw [List.drop_set, if_neg (by omega), Nat.add_sub_cancel_left, List.take_set, h7]
theorem itemCells_set : ∀ (l : List Item) (i : Nat) (x : Item) (t : Int), l[i]? = some x → (itemCells l).set (i * 2) (.int .i64 t) = itemCells (l.set i { x with to := t })
  | [], i, x, t, h => by simp at h
  | y :: l, 0, x, t, h => by
    have : y = x := by simpa using h
    subst this; rfl
  | y :: l, i + 1, x, t, h => by
    have e : itemCells (y :: l) = .int .i64 y.to :: .slice y.a y.n y.k :: itemCells l := rfl
    have h' : l[i]? = some x := by simpa using h
    rw [e, show (i + 1) * 2 = (i * 2 + 1) + 1 by omega, List.set_cons_succ, List.set_cons_succ, itemCells_set l i x t h']
    rfl
def Item.mv (f t : Int) (x : Item) : Item := if x.to = f then { x with to := t } else x
theorem QR.setTo {H : Heap} {p : Nat} {most lost : Int} {l : List Item} {b o n k : Nat} (hq : QR H p most lost l (some ⟨b, o, none⟩) n k) {i : Nat} {x : Item} (hx : l[i]? = some x) (t : Int) :
    ∃ H', stc H b (o + Int.toNat (i : Int) * 2) [.int .i64 t] = some H' ∧ QR H' p most lost (l.set i { x with to := t }) (some ⟨b, o, none⟩) n k ∧ Chg (In1 (some ⟨b, o, none⟩)) H H' := by
  have hi := (List.getElem?_eq_some_iff.1 hx).1
  obtain ⟨H', c, o2, g, nx⟩ := hq.own.putc (c := i * 2) (by rw [itemCells_len]; omega) (.int .i64 t)
  rw [itemCells_set l i x t hx] at o2
  refine ⟨H', by rw [Int.toNat_natCast]; exact c, ⟨by rw [g.get p hq.lt hq.apart]; exact hq.row, by rw [nx]; exact hq.lt, o2, hq.apart, fun y hy => ?_⟩, g⟩
  have key : ∀ y ∈ l, By H' y.a y.n y.k y.bs ∧ ∀ c, In1 y.a c → c ≠ p ∧ ¬In1 (some ⟨b, o, none⟩) c := fun y hy => ⟨(hq.items y hy).1.chg g fun c hc => ((hq.items y hy).2 c hc).2, (hq.items y hy).2⟩
  rcases List.mem_or_eq_of_mem_set hy with hy | rfl
  · exact key y hy
  · exact key x (List.mem_of_getElem? hx)
namespace F15
theorem l0 {p : Nat} {most lost : Int} {l : List Item} {b o n k : Nat} (f t : Int) (hl : l.length ≤ 32) : ∀ (rest : List Item) (j : Nat) (H : Heap) (c : Nat), l.drop j = rest → j + rest.length = l.length → c ≤ j → QR H p most lost ((l.take j).map (Item.mv f t) ++ rest) (some ⟨b, o, none⟩) n k →
    ∃ H', L0 p 0 f t (c : Int) (n : Int) (j : Int) H (.int .i64 ((c + rest.countP (fun x => x.to = f) : Nat) : Int), H') ∧ QR H' p most lost (l.map (Item.mv f t)) (some ⟨b, o, none⟩) n k ∧ Chg (In1 (some ⟨b, o, none⟩)) H H' := by
  intro rest
  induction rest with
  | nil =>
    intro j H c hd hj hc hq
    simp only [List.length_nil] at hj
    have hn := hq.cnt
    simp only [List.append_nil, List.length_map, List.length_take] at hn
    rw [List.append_nil, List.take_of_length_le (by omega)] at hq
    refine ⟨H, L0_step ?_, hq, Chg.refl _⟩
    rw [if_neg (by omega)]
    rfl
  | cons x rest ih =>
    intro j H c hd hj hc hq
    simp only [List.length_cons] at hj
    have hx := drop_get hd
    have hlen : ((l.take j).map (Item.mv f t)).length = j := by simp; omega
    have hn := hq.cnt
    simp only [List.length_append, hlen, List.length_cons] at hn
    have hxx : ((l.take j).map (Item.mv f t) ++ x :: rest)[j]? = some x := by rw [List.getElem?_append_right (by omega), hlen]; simp
    have et : (l.take (j + 1)).map (Item.mv f t) = (l.take j).map (Item.mv f t) ++ [x.mv f t] := by rw [List.take_add_one, hx]; simp
    by_cases hf : x.to = f
    · obtain ⟨H1, c1, q1, g1⟩ := hq.setTo hxx t
      have e : (((l.take j).map (Item.mv f t)) ++ x :: rest).set j { x with to := t } = (l.take (j + 1)).map (Item.mv f t) ++ rest := by
        rw [et, List.set_append_right _ _ (by omega), hlen, Nat.sub_self, List.set_cons_zero, List.append_assoc]
        have : x.mv f t = { x with to := t } := if_pos hf
        rw [this]; rfl
      rw [e] at q1
      obtain ⟨H', z1, z2, z3⟩ := ih (j + 1) H1 (c + 1) (drop_next hd) (by omega) (by omega) q1
      refine ⟨H', L0_step ?_, z2, g1.trans z3 fun _ _ h => h⟩
      rw [if_pos (by omega)]
      refine ⟨_, _, _, (ldc3 hq.row).2.1, b, o, rfl, by omega, by omega, x.to, (hq.to hxx).1, ?_⟩
      rw [if_pos hf]
      refine ⟨_, _, _, (ldc3 hq.row).2.1, b, o, rfl, by omega, by omega, H1, c1, ?_⟩
      rw [i64 (by omega) (by omega), i64 (by omega) (by omega)]
      have e2 : c + (x :: rest).countP (fun x => x.to = f) = (c + 1) + rest.countP (fun x => x.to = f) := by rw [List.countP_cons_of_pos (by simpa using hf)]; omega
      rw [e2]
      exact_mod_cast z1
    · have e : ((l.take j).map (Item.mv f t)) ++ x :: rest = (l.take (j + 1)).map (Item.mv f t) ++ rest := by
        have : x.mv f t = x := if_neg hf
        rw [et, this]; simp
      obtain ⟨H', z1, z2, z3⟩ := ih (j + 1) H c (drop_next hd) (by omega) (by omega) (e ▸ hq)
      refine ⟨H', L0_step ?_, z2, z3⟩
      rw [if_pos (by omega)]
      refine ⟨_, _, _, (ldc3 hq.row).2.1, b, o, rfl, by omega, by omega, x.to, (hq.to hxx).1, ?_⟩
      rw [if_neg hf, i64 (by omega) (by omega)]
      have e2 : (x :: rest).countP (fun x => x.to = f) = rest.countP (fun x => x.to = f) := List.countP_cons_of_neg (by simpa using hf)
      rw [e2]
      exact_mod_cast z1
theorem ok {H : Heap} {p : Nat} {most lost : Int} {l : List Item} {a : Option Addr} {n k : Nat} (f t : Int) (hq : QR H p most lost l a n k) (hl : l.length ≤ 32) :
    ∃ H', Cq 15 [.pointer (some ⟨p, 0, none⟩), .int .i64 f, .int .i64 t] H = some (.int .i64 ((l.countP (fun x => x.to = f) : Nat) : Int), H') ∧ QR H' p most lost (l.map (Item.mv f t)) a n k ∧ Chg (In1 a) H H' := by
  have hn := hq.cnt
  by_cases h0 : l = []
  · subst h0
    refine ⟨H, call ?_, hq, Chg.refl _⟩
    rw [if_neg (by simp)]
    refine ⟨p, 0, rfl, _, _, _, (ldc3 hq.row).2.1, L0_step ?_⟩
    simp only [List.length_nil] at hn
    rw [if_neg (by omega)]
    rfl
  · have hpos := List.length_pos_iff.2 h0
    obtain ⟨b, o, rfl⟩ := hq.own.sl.at (by omega)
    obtain ⟨H', z1, z2, z3⟩ := l0 (p := p) (most := most) (lost := lost) (l := l) (b := b) (o := o) (n := n) (k := k) f t hl l 0 H 0 (by simp) (by omega) (Nat.le_refl _) (by simpa using hq)
    refine ⟨H', call ?_, z2, z3⟩
    rw [if_neg (by simp)]
    refine ⟨p, 0, rfl, _, _, _, (ldc3 hq.row).2.1, ?_⟩
    rw [Nat.zero_add] at z1
    exact z1
end F15
namespace F12
theorem ok (H : Heap) : ∃ H', Cq 12 [] H = some (.bool true, H') ∧ Keep H.next H H' := by
  obtain ⟨H1, c1, q1, k1⟩ := F13.ok 1 H
  have n1 := k1.next
  have kx : Keep H1.next H1 (H1.push (.row [.int .u8 120] true)) := Keep.push _ (Nat.le_refl _)
  have ox := OwnI.new (K := .u8) H1 [120]
  generalize ex : H1.push (.row [.int .u8 120] true) = H2 at kx
  rw [show H1.push (.row (List.map (Value.int .u8) [120]) true) = H2 from ex] at ox
  have q2 := q1.new kx.chg0
  obtain ⟨a3, n3, k3, x, H3, c3, q3, xt, xb, g3, f3, f3'⟩ := F14.ok 3 q2 ox.sl (by simp) (by decide) (by decide)
  have ky : Keep H3.next H3 (H3.push (.row [.int .u8 121] true)) := Keep.push _ (Nat.le_refl _)
  have oy := OwnI.new (K := .u8) H3 [121]
  generalize ey : H3.push (.row [.int .u8 121] true) = H4 at ky
  rw [show H3.push (.row (List.map (Value.int .u8) [121]) true) = H4 from ey] at oy
  have q4 := q3.new ky.chg0
  obtain ⟨H5, c5, q5, g5⟩ := F14.full (a2 := some ⟨H3.next, 0, none⟩) (n2 := 1) (k2 := UNK 1) 3 q4 (by simp only [List.nil_append, List.length_cons, List.length_nil]; decide)
  have xn : x.n = 1 := by have := (q5.items x (by simp)).1.ln; rw [xb] at this; simpa using this.symm
  obtain ⟨a6, k6, H6, c6, o6, k6'⟩ := F17.ok q5 (i := 0) (x := x) (by simp) (by omega)
  have q6 := q5.new k6'.chg0
  refine ⟨H6, call ⟨_, _, c1, H2, ex.symm, ox.mark, _, _, c3, H4, ey.symm, oy.mark, _, _, c5, _, _, _, _, _, c6, ?_⟩, ?_⟩
  · rw [if_pos rfl, if_neg (by simp), if_pos rfl]
    refine ⟨_, o6.sl.str, ?_⟩
    rw [if_pos (by rw [xb]; decide +kernel)]
    exact ⟨_, _, F20.ok q6, rfl⟩
  · have h3 : H1.next ≤ H3.next := Nat.le_trans kx.next g3.next
    refine (k1.trans ((kx.weak n1).trans (Keep.trans (H1 := H3) (g3.keep (Nat.le_trans n1 kx.next) fun b hb h => ?_) ((ky.weak (by omega)).trans ((g5.keep (by have := ky.next; omega) fun b hb h => ?_).trans (k6'.weak (by have := ky.next; have := g5.next; omega)))))))
    · rcases h with rfl | h
      · exact Nat.le_refl _
      · exact absurd h In1.none
    · have h : b = H.next := h
      omega
end F12
end Go.X
