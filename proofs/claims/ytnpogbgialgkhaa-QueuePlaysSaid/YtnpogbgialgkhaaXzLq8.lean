/- The law of the queue: any calls, done. -/
import Derived.Test.YtnpogbgialgkhaaXzLq7
import Derived.Test.YtnpogbgialgkhaaXzS
set_option linter.unusedVariables false
set_option linter.unusedSimpArgs false
set_option maxRecDepth 20000
namespace Go.X
open Go Go.RowKit Go.Proofs
/-- A row that a copy is put into. -/
theorem scratch2 {H : Heap} {x y u v : Value} : ∃ H2, (stc (H.push (.row [x, y] true)) H.next 0 [u, v] = some H2) ∧ H2.get H.next = .row [u, v] true ∧ Keep H.next H H2 ∧ H2.next = H.next + 1 :=
  ⟨_, stc2 (x := x) (y := y) (by simp), by simp, (Keep.push _ (Nat.le_refl _)).trans (Keep.set _ (Nat.le_refl _)), rfl⟩
namespace F32
theorem l0 {p : Nat} {most lost : Int} {l : List Item} {b o n k : Nat} (f t : Int) (hl : l.length ≤ 32) : ∀ (rest : List Item) (j : Nat) (H : Heap) (c : Nat), l.drop j = rest → j + rest.length = l.length → c ≤ j → QR H p most lost ((l.take j).map (Item.mv f t) ++ rest) (some ⟨b, o, none⟩) n k →
    ∃ H', L0 p 0 f t (c : Int) (some ⟨b, o, none⟩) n k (n : Int) (j : Int) H (.int .i64 ((c + rest.countP (fun x => x.to = f) : Nat) : Int), H') ∧ QR H' p most lost (l.map (Item.mv f t)) (some ⟨b, o, none⟩) n k ∧ Chg (In1 (some ⟨b, o, none⟩)) H H' := by
  intro rest
  induction rest with
  | nil =>
    intro j H c hd hj hc hq
    simp only [List.length_nil] at hj
    have hn := hq.cnt
    simp only [List.append_nil, List.length_map, List.length_take] at hn
    rw [List.append_nil, List.take_of_length_le (by omega)] at hq
    refine ⟨H, L0_step ?_, hq, Chg.refl _⟩
    rw [if_neg (by omega)]
    rfl
  | cons x rest ih =>
    intro j H c hd hj hc hq
    simp only [List.length_cons] at hj
    have hx := drop_get hd
    have hlen : ((l.take j).map (Item.mv f t)).length = j := by simp; omega
    have hn := hq.cnt
    simp only [List.length_append, hlen, List.length_cons] at hn
    have hxx : ((l.take j).map (Item.mv f t) ++ x :: rest)[j]? = some x := by rw [List.getElem?_append_right (by omega), hlen]; simp
    have et : (l.take (j + 1)).map (Item.mv f t) = (l.take j).map (Item.mv f t) ++ [x.mv f t] := by rw [List.take_add_one, hx]; simp
    obtain ⟨H2, s1, s2, s3, s4⟩ := scratch2 (H := H) (x := .int .i64 0) (y := .slice none 0 0) (u := .int .i64 x.to) (v := .slice x.a x.n x.k)
    have q2 := hq.new s3.chg0
    by_cases hf : x.to = f
    · obtain ⟨H1, c1, q1, g1⟩ := q2.setTo hxx t
      have e : (((l.take j).map (Item.mv f t)) ++ x :: rest).set j { x with to := t } = (l.take (j + 1)).map (Item.mv f t) ++ rest := by
        rw [et, List.set_append_right _ _ (by omega), hlen, Nat.sub_self, List.set_cons_zero, List.append_assoc]
        have : x.mv f t = { x with to := t } := if_pos hf
        rw [this]; rfl
      rw [e] at q1
      obtain ⟨H', z1, z2, z3⟩ := ih (j + 1) H1 (c + 1) (drop_next hd) (by omega) (by omega) q1
      refine ⟨H', L0_step ?_, z2, (s3.chg0 (S := In1 (some ⟨b, o, none⟩))).trans (g1.trans z3 fun _ _ h => h) fun _ _ h => h⟩
      rw [if_pos (by omega)]
      refine ⟨b, o, rfl, by omega, by omega, x.to, x.a, x.n, x.k, ⟨(hq.to hxx).1, (hq.to hxx).2, trivial⟩, _, rfl, H2, s1, _, ldc2 s2, ?_⟩
      rw [if_pos hf]
      refine ⟨_, _, _, (ldc3 q2.row).2.1, b, o, rfl, by omega, by omega, H1, c1, ?_⟩
      rw [i64 (by omega) (by omega), i64 (by omega) (by omega)]
      have e2 : c + (x :: rest).countP (fun x => x.to = f) = (c + 1) + rest.countP (fun x => x.to = f) := by rw [List.countP_cons_of_pos (by simpa using hf)]; omega
      rw [e2]
      exact_mod_cast z1
    · have e : ((l.take j).map (Item.mv f t)) ++ x :: rest = (l.take (j + 1)).map (Item.mv f t) ++ rest := by
        have : x.mv f t = x := if_neg hf
        rw [et, this]; simp
      obtain ⟨H', z1, z2, z3⟩ := ih (j + 1) H2 c (drop_next hd) (by omega) (by omega) (e ▸ q2)
      refine ⟨H', L0_step ?_, z2, (s3.chg0 (S := In1 (some ⟨b, o, none⟩))).trans z3 fun _ _ h => h⟩
      rw [if_pos (by omega)]
      refine ⟨b, o, rfl, by omega, by omega, x.to, x.a, x.n, x.k, ⟨(hq.to hxx).1, (hq.to hxx).2, trivial⟩, _, rfl, H2, s1, _, ldc2 s2, ?_⟩
      rw [if_neg hf, i64 (by omega) (by omega)]
      have e2 : (x :: rest).countP (fun x => x.to = f) = rest.countP (fun x => x.to = f) := List.countP_cons_of_neg (by simpa using hf)
      rw [e2]
      exact_mod_cast z1
theorem opOk {H : Heap} {p : Nat} {most lost : Int} {l : List Item} {a : Option Addr} {n k : Nat} (f t : Int) (hq : QR H p most lost l a n k) (hl : l.length ≤ 32) :
    ∃ H', Cq 32 [.pointer (some ⟨p, 0, none⟩), .int .i64 f, .int .i64 t] H = some (.int .i64 ((l.countP (fun x => x.to = f) : Nat) : Int), H') ∧ QR H' p most lost (l.map (Item.mv f t)) a n k ∧ Op H H' p a a l (l.map (Item.mv f t)) := by
  have hn := hq.cnt
  have its : ∀ x ∈ l.map (Item.mv f t), ∀ b, In1 x.a b → (∃ y ∈ l, In1 y.a b) ∨ H.next ≤ b := fun x hx b h => by
    obtain ⟨y, hy, rfl⟩ := List.mem_map.1 hx
    refine .inl ⟨y, hy, ?_⟩
    unfold Item.mv at h
    split at h <;> exact h
  by_cases h0 : l = []
  · subst h0
    refine ⟨H, call ?_, hq, ⟨Chg.refl _, fun b h => .inl h, its⟩⟩
    refine ⟨p, 0, rfl, _, _, _, (ldc3 hq.row).2.1, L0_step ?_⟩
    simp only [List.length_nil] at hn
    rw [if_neg (by omega)]
    rfl
  · have hpos := List.length_pos_iff.2 h0
    obtain ⟨b, o, rfl⟩ := hq.own.sl.at (by omega)
    obtain ⟨H', z1, z2, z3⟩ := l0 (p := p) (most := most) (lost := lost) (l := l) (b := b) (o := o) (n := n) (k := k) f t hl l 0 H 0 (by simp) (by omega) (Nat.le_refl _) (by simpa using hq)
    refine ⟨H', call ?_, z2, ⟨z3.weak fun b _ h => .inr h, fun b h => .inl h, its⟩⟩
    refine ⟨p, 0, rfl, _, _, _, (ldc3 hq.row).2.1, ?_⟩
    rw [Nat.zero_add] at z1
    exact z1
end F32
namespace F24
theorem l0 {H : Heap} {a0 a1 : Option Addr} {n k0 k1 : Nat} {xs : List Int} (h0 : Ints .i64 H a0 n k0 xs) (h1 : Ints .i64 H a1 n k1 xs) (hn : n ≤ 140737488355328) : ∀ (d j : Nat), j + d = n → L0 a0 n k0 a1 n k1 (n : Int) (j : Int) H (.bool true, H) := by
  have hl := h0.ln
  intro d
  induction d with
  | zero =>
    intro j hj
    refine L0_step ?_
    rw [if_neg (by omega)]
  | succ d ih =>
    intro j hj
    obtain ⟨b0, o0, rfl⟩ := h0.at (by omega)
    obtain ⟨b1, o1, rfl⟩ := h1.at (by omega)
    have hx : xs[j]? = some (xs.getD j 0) := by simp [List.getD, List.getElem?_eq_getElem (show j < xs.length by omega)]
    refine L0_step ?_
    rw [if_pos (by omega)]
    refine ⟨b0, o0, rfl, by omega, by omega, _, Ints.get h0 hx, b1, o1, rfl, by omega, by omega, _, Ints.get h1 hx, ?_⟩
    rw [if_pos rfl, i64 (by omega) (by omega)]
    exact_mod_cast ih (j + 1) (by omega)
theorem ok {H : Heap} {a0 a1 : Option Addr} {n k0 k1 : Nat} {xs : List Int} (h0 : Ints .i64 H a0 n k0 xs) (h1 : Ints .i64 H a1 n k1 xs) (hn : n ≤ 140737488355328) : Cq 24 [.slice a0 n k0, .slice a1 n k1] H = some (.bool true, H) := by
  refine call ?_
  rw [if_pos rfl]
  exact l0 h0 h1 hn n 0 (by omega)
end F24
structure PCall where
  d : Int
  i : Int
  n : Int
  a : Option Addr
  m : Nat
  k : Nat
  bs : List Int
def PCall.cells (c : PCall) : List Value := [.int .i64 c.d, .int .i64 c.i, .int .i64 c.n, .slice c.a c.m c.k]
theorem PCall.z (c : PCall) : c.cells.length = 4 := rfl
theorem scratch4 {H : Heap} {x y z w x' y' z' w' : Value} : ∃ H2, (stc (H.push (.row [x, y, z, w] true)) H.next 0 [x', y', z', w'] = some H2) ∧ H2.get H.next = .row [x', y', z', w'] true ∧ Keep H.next H H2 ∧ H2.next = H.next + 1 := by
  have e : stc (H.push (.row [x, y, z, w] true)) H.next 0 [x', y', z', w'] = some ((H.push (.row [x, y, z, w] true)).set H.next (.row [x', y', z', w'] true)) := by
    have : (H.push (.row [x, y, z, w] true)).get H.next = .row [x, y, z, w] true := by simp
    unfold stc; rw [this]; rfl
  exact ⟨_, e, by simp, (Keep.push _ (Nat.le_refl _)).trans (Keep.set _ (Nat.le_refl _)), rfl⟩
/-- The two queues, alike, above a base. -/
structure Pair (B : Nat) (H : Heap) (p p2 : Nat) (most lost : Int) (l l2 : List Item) (a : Option Addr) (n k : Nat) (a2 : Option Addr) (n2 k2 : Nat) : Prop where
  q : QR H p most lost l a n k
  q2 : QR H p2 most lost l2 a2 n2 k2
  ap : Aprt p a l p2 a2 l2
  e : l.map Item.v = l2.map Item.v
  le : l.length ≤ 32
  m32 : most ≤ 32
  b1 : ∀ b, (b = p ∨ In1 a b) → B ≤ b
  b2 : ∀ b, (b = p2 ∨ In1 a2 b) → B ≤ b
  its : ∀ x ∈ l, x.bs.length ≤ 200
section
variable {B : Nat} {H H' H1 H2 : Heap} {p p2 : Nat} {most lost lost' : Int} {l l2 l' l2' : List Item} {a a2 a' a2' : Option Addr} {n k n2 k2 n' k' n2' k2' : Nat}
theorem Pair.new (h : Pair B H p p2 most lost l l2 a n k a2 n2 k2) (kp : Keep H.next H H') : Pair B H' p p2 most lost l l2 a n k a2 n2 k2 :=
  ⟨h.q.new kp.chg0, h.q2.new kp.chg0, h.ap, h.e, h.le, h.m32, h.b1, h.b2, h.its⟩
theorem Pair.len (h : Pair B H p p2 most lost l l2 a n k a2 n2 k2) : l.length = l2.length := by simpa using congrArg List.length h.e
theorem Pair.base (h : Pair B H p p2 most lost l l2 a n k a2 n2 k2) : B ≤ H.next := by have := h.b1 p (.inl rfl); have := h.q.lt; omega
theorem Pair.left (h : Pair B H p p2 most lost l l2 a n k a2 n2 k2) (o : Op H H1 p a a' l l') : QR H1 p2 most lost l2 a2 n2 k2 := (h.ap.op h.q2 o).1
theorem Pair.both (h : Pair B H p p2 most lost l l2 a n k a2 n2 k2) (o : Op H H1 p a a' l l') (q : QR H1 p most lost' l' a' n' k') (o2 : Op H1 H2 p2 a2 a2' l2 l2') (q2 : QR H2 p2 most lost' l2' a2' n2' k2') (e : l'.map Item.v = l2'.map Item.v) (le : l'.length ≤ 32) (its : ∀ x ∈ l', x.bs.length ≤ 200) :
    Pair B H2 p p2 most lost' l' l2' a' n' k' a2' n2' k2' ∧ Keep B H H2 := by
  obtain ⟨q2', ap⟩ := h.ap.op h.q2 o
  obtain ⟨q', ap2⟩ := ap.symm.op q o2
  have hb := h.base
  have hn := o.chg.next
  refine ⟨⟨q', q2, ap2.symm, e, le, h.m32, fun b hb' => ?_, fun b hb' => ?_, its⟩, (o.chg.keep hb fun b _ => h.b1 b).trans (o2.chg.keep (Nat.le_trans hb hn) fun b _ => h.b2 b)⟩
  · rcases hb' with hb' | hb'
    · exact h.b1 b (.inl hb')
    · rcases o.arr b hb' with h3 | h3
      · exact h.b1 b (.inr h3)
      · omega
  · rcases hb' with hb' | hb'
    · exact h.b2 b (.inl hb')
    · rcases o2.arr b hb' with h3 | h3
      · exact h.b2 b (.inr h3)
      · omega
theorem Pair.get (h : Pair B H p p2 most lost l l2 a n k a2 n2 k2) {i : Nat} {x : Item} (hx : l[i]? = some x) : ∃ y, l2[i]? = some y ∧ y.v = x.v := by
  have e := congrArg (·[i]?) h.e
  simp only [List.getElem?_map, hx, Option.map_some] at e
  cases hy : l2[i]? with
  | none => rw [hy] at e; cases e
  | some y => rw [hy] at e; exact ⟨y, rfl, by simpa using e.symm⟩
end
theorem v_to {l l2 : List Item} (h : l.map Item.v = l2.map Item.v) : l.map Item.to = l2.map Item.to := by
  have := congrArg (List.map Prod.fst) h
  rw [List.map_map, List.map_map] at this
  exact this
theorem v_mv {l l2 : List Item} (f t : Int) (h : l.map Item.v = l2.map Item.v) : (l.map (Item.mv f t)).map Item.v = (l2.map (Item.mv f t)).map Item.v := by
  have g : ∀ l : List Item, (l.map (Item.mv f t)).map Item.v = (l.map Item.v).map fun x => if x.1 = f then (t, x.2) else x := by
    intro l
    rw [List.map_map, List.map_map]
    refine List.map_congr_left fun x _ => ?_
    show (x.mv f t).v = if x.v.1 = f then (t, x.v.2) else x.v
    by_cases h : x.to = f
    · exact ((if_pos h).trans (congrArg Item.v (if_pos h : x.mv f t = { x with to := t })).symm).symm
    · exact ((if_neg h).trans (congrArg Item.v (if_neg h : x.mv f t = x)).symm).symm
  rw [g, g, h]
theorem v_cnt {l l2 : List Item} (f : Int) (h : l.map Item.v = l2.map Item.v) : l.countP (fun x => x.to = f) = l2.countP (fun x => x.to = f) := by
  have := congrArg (List.countP (fun x : Int × List Int => x.1 = f)) h
  rw [List.countP_map, List.countP_map] at this
  exact this
theorem v_erase {l l2 : List Item} (i : Nat) (h : l.map Item.v = l2.map Item.v) : (l.eraseIdx i).map Item.v = (l2.eraseIdx i).map Item.v := by
  rw [List.eraseIdx_eq_take_drop_succ, List.eraseIdx_eq_take_drop_succ, List.map_append, List.map_take, List.map_drop, h, List.map_append, List.map_take, List.map_drop]
namespace F10
variable {B : Nat} {p p2 : Nat} {most lost : Int} {l l2 : List Item} {a a2 : Option Addr} {n k n2 k2 : Nat} {b1 o1 n1 k1 : Nat} {j : Nat}
theorem l4 {G : Heap} (hp : Pair B G p p2 most lost l l2 a n k a2 n2 k2) (hj : (j : Int) < 150) (fin : ∀ H2, Keep G.next G H2 → ∃ H', L0 (some ⟨p, 0, none⟩) (some ⟨p2, 0, none⟩) (some ⟨b1, o1, none⟩) n1 k1 (n1 : Int) ((j + 1 : Nat) : Int) H2 (.bool true, H')) :
    ∀ (rest : List Item) (i : Nat) (H : Heap) (a3 : Option Addr) (k3 : Nat), l2.drop i = rest → i + rest.length = n2 → Keep G.next G H → OwnI .i64 G.next H a3 i k3 ((l2.take i).map Item.to) →
    ∃ H', L4 (some ⟨p, 0, none⟩) p2 0 true a3 i k3 b1 o1 n1 k1 (n1 : Int) (j : Int) a2 n2 k2 (n2 : Int) (i : Int) H (.bool true, H') := by
  have hn2 := hp.q2.cnt
  have hn := hp.q.cnt
  have hll := hp.len
  have hle := hp.le
  intro rest
  induction rest with
  | nil =>
    intro i H a3 k3 hd hi hk ho
    simp only [List.length_nil] at hi
    have e : i = n2 := by omega
    subst e
    rw [List.take_of_length_le (by omega)] at ho
    have h := hp.new hk
    obtain ⟨a5, k5, H5, c5, o5, p5⟩ := F16.ok h.q hle
    have h5 := h.new p5
    have s5 := (ho.sl.keep p5)
    rw [← v_to hp.e] at s5
    have e1 : l.length = i := by omega
    rw [e1] at c5 o5
    have c6 := F24.ok o5.sl s5 (by omega)
    obtain ⟨H', z⟩ := fin H5 (hk.trans (p5.weak hk.next))
    have r := ldc3 h5.q2.row
    refine ⟨H', L4_step ?_⟩
    rw [if_neg (by omega), if_pos rfl]
    refine ⟨_, _, _, _, c5, _, _, c6, ?_⟩
    rw [if_pos rfl]
    refine ⟨_, _, F19.ok h5.q, _, _, _, r.2.1, ?_⟩
    rw [if_pos (by omega)]
    refine ⟨_, _, F20.ok h5.q, _, r.2.2, r.2.1, r.2.2, L5_step ?_⟩
    rw [if_neg (by simp), i64 (by omega) (by omega)]
    exact_mod_cast z
  | cons x rest ih =>
    intro i H a3 k3 hd hi hk ho
    simp only [List.length_cons] at hi
    have hx := drop_get hd
    have h := hp.new hk
    have hN := hk.next
    obtain ⟨b2, o2, rfl⟩ := h.q2.own.sl.at (by omega)
    obtain ⟨H2, s1, s2, s3, s4⟩ := scratch2 (H := H) (x := .int .i64 0) (y := .slice none 0 0) (u := .int .i64 x.to) (v := .slice x.a x.n x.k)
    have q2 := ho.keep s3
    have p3 : Keep H2.next H2 (H2.push (.row [.int .i64 x.to] true)) := Keep.push _ (Nat.le_refl _)
    have on := (OwnI.new (K := .i64) H2 [x.to]).sl
    obtain ⟨a4, k4, H4, c4, o4, p4⟩ := OwnI.app 8 (q2.keep p3) on (by simp; omega) (by simp; omega) (by simp; omega)
    have hk4 : Keep G.next G H4 := hk.trans ((s3.weak hN).trans ((p3.weak (by omega)).trans p4))
    have et : (l2.take (i + 1)).map Item.to = (l2.take i).map Item.to ++ [x.to] := by rw [List.take_add_one, hx]; simp
    obtain ⟨H', z⟩ := ih (i + 1) H4 a4 k4 (drop_next hd) (by omega) hk4 (by rw [et]; exact o4)
    refine ⟨H', L4_step ?_⟩
    rw [if_pos (by omega)]
    refine ⟨b2, o2, rfl, by omega, by omega, x.to, x.a, x.n, x.k, ⟨(h.q2.to hx).1, (h.q2.to hx).2, trivial⟩, _, rfl, H2, s1, _, ldc2 s2, _, rfl, _, _, _, _, c4, ?_⟩
    rw [i64 (by omega) (by omega)]
    exact_mod_cast z
theorem l2s {G : Heap} (hp : Pair B G p p2 most lost l l2 a n k a2 n2 k2) (hj : (j : Int) < 150) (fin : ∀ H2, Keep G.next G H2 → ∃ H', L0 (some ⟨p, 0, none⟩) (some ⟨p2, 0, none⟩) (some ⟨b1, o1, none⟩) n1 k1 (n1 : Int) ((j + 1 : Nat) : Int) H2 (.bool true, H')) :
    ∃ H', L2 (some ⟨p, 0, none⟩) (some ⟨p2, 0, none⟩) true b1 o1 n1 k1 (n1 : Int) (j : Int) G (.bool true, H') := by
  have hn2 := hp.q2.cnt
  obtain ⟨H', z⟩ := l4 hp hj fin l2 0 G none 0 (by simp) (by omega) (Keep.refl _ _) OwnI.nil
  exact ⟨H', L2_step ⟨p2, 0, rfl, _, _, _, (ldc3 hp.q2.row).2.1, z⟩⟩
/-- One call. -/
theorem l1 {G : Heap} {s : Nat} {c : PCall} (hp : Pair B G p p2 most lost l l2 a n k a2 n2 k2) (hj : (j : Int) < 150) (hm : c.m ≤ 200) (hs : By G c.a c.m c.k c.bs) (hcb : ∀ b, In1 c.a b → b < B) (g : G.get s = .row c.cells true) (sl : s < G.next) (sp : s ≠ p) (sa : ¬In1 a s) (sp2 : s ≠ p2) (sa2 : ¬In1 a2 s)
    (fin : ∀ lost l l2 a n k a2 n2 k2 H2, Pair B H2 p p2 most lost l l2 a n k a2 n2 k2 → Keep B G H2 → ∃ H', L0 (some ⟨p, 0, none⟩) (some ⟨p2, 0, none⟩) (some ⟨b1, o1, none⟩) n1 k1 (n1 : Int) ((j + 1 : Nat) : Int) H2 (.bool true, H')) :
    ∃ H', L1 (some ⟨p, 0, none⟩) (some ⟨p2, 0, none⟩) s 0 b1 o1 n1 k1 (n1 : Int) (j : Int) false G (.bool true, H') := by
  have hn2 := hp.q2.cnt
  have hn := hp.q.cnt
  have hll := hp.len
  have hle := hp.le
  have hB := hp.base
  have go : ∀ {lost l l2 a n k a2 n2 k2 H2}, Pair B H2 p p2 most lost l l2 a n k a2 n2 k2 → Keep B G H2 → ∃ H', L2 (some ⟨p, 0, none⟩) (some ⟨p2, 0, none⟩) true b1 o1 n1 k1 (n1 : Int) (j : Int) H2 (.bool true, H') := fun h kp =>
    l2s h hj fun H3 k3 => fin _ _ _ _ _ _ _ _ _ H3 (h.new k3) (kp.trans (k3.weak (Nat.le_trans hB kp.next)))
  have f0 : ldc G s 0 = some (.int .i64 c.d) := ldcs g 0
  have f1 : ldc G s 1 = some (.int .i64 c.i) := ldcs g 1
  have f2 : ldc G s 2 = some (.int .i64 c.n) := ldcs g 2
  have f3 : ldc G s 3 = some (.slice c.a c.m c.k) := ldcs g 3
  by_cases d0 : c.d = 0
  · by_cases hf : most ≤ l.length
    · obtain ⟨H1, c1, q1, o1'⟩ := F14.opFull (a2 := c.a) (n2 := c.m) (k2 := c.k) c.i hp.q hf
      obtain ⟨H2, c2, q2, o2'⟩ := F30.opFull (a2 := c.a) (n2 := c.m) (k2 := c.k) c.i (hp.left o1') (by omega)
      obtain ⟨h2, kp⟩ := hp.both o1' q1 o2' q2 hp.e hp.le hp.its
      obtain ⟨H', z⟩ := go h2 kp
      have g1 : H1.get s = .row c.cells true := by rw [o1'.chg.get s sl fun h => by rcases h with h | h; exact sp h; exact sa h]; exact g
      refine ⟨H', L1_step ?_⟩
      rw [if_neg (by simp)]
      refine ⟨_, f0, ?_⟩
      rw [if_pos d0]
      exact ⟨_, by simpa using f1, _, _, _, by simpa using f3, _, _, c1, _, by simpa using f1, _, _, _, by simpa using f3, _, _, c2, by simpa [PCall.cells] using ldcs g1 1, by simpa [PCall.cells] using ldcs g1 3, by simpa using z⟩
    · obtain ⟨a', n', k', x, H1, c1, q1, xv, o1'⟩ := F14.opOk c.i hp.q hs (by omega) hp.m32 (by omega)
      have hs1 : By H1 c.a c.m c.k c.bs := hs.chg o1'.chg fun b hb h => by have := hcb b hb; have := hp.b1 b h; omega
      obtain ⟨a2', n2', k2', x2, H2, c2, q2, xv2, o2'⟩ := F30.opOk c.i (hp.left o1') hs1 (by omega) hp.m32 (by omega)
      have xb : x.bs = c.bs := congrArg Prod.snd xv
      have hl := hs.ln
      obtain ⟨h2, kp⟩ := hp.both o1' q1 o2' q2 (by rw [List.map_append, List.map_append, hp.e, List.map_singleton, List.map_singleton, xv, xv2]) (by have := hp.m32; simp; omega) (fun y hy => by
        rcases List.mem_append.1 hy with hy | hy
        · exact hp.its y hy
        · simp only [List.mem_singleton] at hy; subst hy; rw [xb]; omega)
      obtain ⟨H', z⟩ := go h2 kp
      have g1 : H1.get s = .row c.cells true := by rw [o1'.chg.get s sl fun h => by rcases h with h | h; exact sp h; exact sa h]; exact g
      refine ⟨H', L1_step ?_⟩
      rw [if_neg (by simp)]
      refine ⟨_, f0, ?_⟩
      rw [if_pos d0]
      exact ⟨_, by simpa using f1, _, _, _, by simpa using f3, _, _, c1, _, by simpa using f1, _, _, _, by simpa using f3, _, _, c2, by simpa [PCall.cells] using ldcs g1 1, by simpa [PCall.cells] using ldcs g1 3, by simpa using z⟩
  by_cases d1 : c.d = 1
  · by_cases hin : 0 ≤ c.i ∧ c.i < l.length
    · obtain ⟨i, hi⟩ := Int.eq_ofNat_of_zero_le hin.1
      have hx : l[i]? = some l[i] := List.getElem?_eq_getElem (by omega)
      obtain ⟨y, hy, yv⟩ := hp.get hx
      have xn := hp.q.ni (List.mem_of_getElem? hx)
      have xs := hp.its _ (List.mem_of_getElem? hx)
      have yb : y.bs = l[i].bs := congrArg Prod.snd yv
      obtain ⟨a', k', H4, c4, o4, p4⟩ := F17.ok hp.q hx (by omega)
      have h4 := hp.new p4
      have g4 : H4.get s = .row c.cells true := by rw [p4.get s sl]; exact g
      obtain ⟨H', z⟩ := go h4 (p4.weak hB)
      obtain ⟨b2, o2, e2⟩ := h4.q2.own.sl.at (by omega)
      have r := ldc3 h4.q2.row
      refine ⟨H', L1_step ?_⟩
      rw [if_neg (by simp)]
      refine ⟨_, f0, ?_⟩
      rw [if_neg d0, if_pos d1]
      refine ⟨_, by simpa using f1, _, _, _, _, _, by rw [hi]; exact c4, _, by simpa [PCall.cells] using ldcs g4 1, ?_⟩
      rw [if_pos (by omega)]
      refine ⟨_, by simpa [PCall.cells] using ldcs g4 1, p2, 0, rfl, _, _, _, r.2.1, ?_⟩
      rw [decide_eq_true (by omega)]
      refine L3_step ?_
      rw [if_pos (by simp), if_pos rfl]
      have yy := h4.q2.items y (List.mem_of_getElem? hy)
      subst e2
      refine ⟨_, o4.sl.str, p2, 0, rfl, _, _, _, r.2.1, _, by simpa [PCall.cells] using ldcs g4 1, b2, o2, rfl, by omega, by omega, _, _, _, by rw [hi]; exact (h4.q2.to hy).2, _, yy.1.str, ?_⟩
      rw [if_pos (by rw [yb])]
      exact z
    · have c4 := F17.out hp.q c.i (by omega)
      obtain ⟨H', z⟩ := go hp (Keep.refl _ _)
      have r := ldc3 hp.q2.row
      have z3 : L3 (some ⟨p, 0, none⟩) (some ⟨p2, 0, none⟩) s 0 none 0 0 false false b1 o1 n1 k1 (n1 : Int) (j : Int) G (.bool true, H') := by
        refine L3_step ?_
        rw [if_pos (by simp), if_neg (by simp)]
        exact z
      refine ⟨H', L1_step ?_⟩
      rw [if_neg (by simp)]
      refine ⟨_, f0, ?_⟩
      rw [if_neg d0, if_pos d1]
      refine ⟨_, by simpa using f1, _, _, _, _, _, c4, _, by simpa using f1, ?_⟩
      by_cases h0 : c.i ≥ 0
      · rw [if_pos h0]
        refine ⟨_, by simpa using f1, p2, 0, rfl, _, _, _, r.2.1, ?_⟩
        rw [decide_eq_false (by omega)]
        exact z3
      · rw [if_neg h0]
        exact z3
  by_cases d2 : c.d = 2
  · by_cases hin : 0 ≤ c.i ∧ c.i < l.length
    · obtain ⟨i, hi⟩ := Int.eq_ofNat_of_zero_le hin.1
      have hx : l[i]? = some l[i] := List.getElem?_eq_getElem (by omega)
      obtain ⟨y, hy, yv⟩ := hp.get hx
      have xn := hp.q.ni (List.mem_of_getElem? hx)
      have yn := hp.q2.ni (List.mem_of_getElem? hy)
      have xs := hp.its _ (List.mem_of_getElem? hx)
      have yb : y.bs = l[i].bs := congrArg Prod.snd yv
      obtain ⟨a', k', H1, a3, n3, k3, c1, s1, q1, o1', f'⟩ := F18.opOk hp.q hx (by omega) hle
      obtain ⟨H2, a4, n4, k4, c2, s2, q2, o2'⟩ := F31.opOk (hp.left o1') hy (by rw [yn, yb]; omega) (by omega)
      obtain ⟨h2, kp⟩ := hp.both o1' q1 o2' q2 (v_erase i hp.e) (by have := List.length_eraseIdx_le l i; omega) (fun x hx => hp.its x (List.mem_of_mem_eraseIdx hx))
      obtain ⟨H', z⟩ := go h2 kp
      have g1 : H1.get s = .row c.cells true := by rw [o1'.chg.get s sl fun h => by rcases h with h | h; exact sp h; exact sa h]; exact g
      have s1' : By H2 a' l[i].n k' l[i].bs := s1.chg o2'.chg fun b hb h => by
        have := f' b hb
        rcases h with rfl | h
        · have := hp.q2.lt; omega
        · have := hp.q2.own.lt h; omega
      refine ⟨H', L1_step ?_⟩
      rw [if_neg (by simp)]
      refine ⟨_, f0, ?_⟩
      rw [if_neg d0, if_neg d1, if_pos d2]
      refine ⟨_, by simpa using f1, _, _, _, _, _, by rw [hi]; exact c1, _, by simpa [PCall.cells] using ldcs g1 1, _, _, _, _, _, by rw [hi]; exact c2, _, s1'.str, _, s2.str, ?_⟩
      rw [if_pos (by rw [yb])]
      exact z
    · have c1 := F18.out hp.q c.i (by omega)
      have c2 := F31.out hp.q2 c.i (by omega)
      obtain ⟨H', z⟩ := go hp (Keep.refl _ _)
      refine ⟨H', L1_step ?_⟩
      rw [if_neg (by simp)]
      refine ⟨_, f0, ?_⟩
      rw [if_neg d0, if_neg d1, if_pos d2]
      refine ⟨_, by simpa using f1, _, _, _, _, _, c1, _, by simpa using f1, _, _, _, _, _, c2, _, (Ints.nil (K := .u8)).str, _, (Ints.nil (K := .u8)).str, ?_⟩
      rw [if_pos rfl]
      exact z
  · obtain ⟨H1, c1, q1, o1'⟩ := F15.opOk c.i c.n hp.q hle
    obtain ⟨H2, c2, q2, o2'⟩ := F32.opOk c.i c.n (hp.left o1') (by omega)
    obtain ⟨h2, kp⟩ := hp.both o1' q1 o2' q2 (v_mv _ _ hp.e) (by simpa using hle) (fun x hx => by
      obtain ⟨y, hy, rfl⟩ := List.mem_map.1 hx
      have := hp.its y hy
      unfold Item.mv
      split <;> exact this)
    obtain ⟨H', z⟩ := go h2 kp
    have g1 : H1.get s = .row c.cells true := by rw [o1'.chg.get s sl fun h => by rcases h with h | h; exact sp h; exact sa h]; exact g
    refine ⟨H', L1_step ?_⟩
    rw [if_neg (by simp)]
    refine ⟨_, f0, ?_⟩
    rw [if_neg d0, if_neg d1, if_neg d2]
    refine ⟨_, by simpa using f1, _, by simpa using f2, _, _, c1, _, by simpa using f1, _, by simpa using f2, _, _, c2, by simpa [PCall.cells] using ldcs g1 1, by simpa [PCall.cells] using ldcs g1 2, ?_⟩
    rw [v_cnt c.i hp.e, beq_self_eq_true]
    exact z
theorem l0 {G : Heap} {a1 : Option Addr} {n1 k1 : Nat} {cs : List PCall} (hs : Sl G 4 a1 n1 k1 (cs.flatMap PCall.cells)) (hc : ∀ c ∈ cs, By G c.a c.m c.k c.bs) (hn : n1 ≤ 140737488355328) : ∀ (d j : Nat) (H : Heap) (lost : Int) (l l2 : List Item) (a : Option Addr) (n k : Nat) (a2 : Option Addr) (n2 k2 : Nat), j + d = n1 → Keep G.next G H → Pair G.next H p p2 most lost l l2 a n k a2 n2 k2 →
    ∃ H', L0 (some ⟨p, 0, none⟩) (some ⟨p2, 0, none⟩) a1 n1 k1 (n1 : Int) (j : Int) H (.bool true, H') := by
  have hl := hs.cnt PCall.z (by decide)
  intro d
  induction d with
  | zero =>
    intro j H lost l l2 a n k a2 n2 k2 hj hk hp
    obtain ⟨H', c, _⟩ := F12.ok H
    refine ⟨H', L0_step ?_⟩
    rw [if_neg (by omega)]
    exact ⟨_, _, c, rfl⟩
  | succ d ih =>
    intro j H lost l l2 a n k a2 n2 k2 hj hk hp
    have hx : cs[j]? = some cs[j] := List.getElem?_eq_getElem (by omega)
    have hcj := hc _ (List.mem_of_getElem? hx)
    obtain ⟨b1, o1, rfl⟩ := hs.at (by omega)
    have ra := (hs.keep hk).recs PCall.z hx
    obtain ⟨H2, s1, s2, s3, s4⟩ := scratch4 (H := H) (x := .int .i64 0) (y := .int .i64 0) (z := .int .i64 0) (w := .slice none 0 0) (x' := .int .i64 cs[j].d) (y' := .int .i64 cs[j].i) (z' := .int .i64 cs[j].n) (w' := .slice cs[j].a cs[j].m cs[j].k)
    have h2 := hp.new s3
    have hk2 := hk.trans (s3.weak hk.next)
    have brk : ∃ H', L1 (some ⟨p, 0, none⟩) (some ⟨p2, 0, none⟩) H.next 0 b1 o1 n1 k1 (n1 : Int) (j : Int) true H2 (.bool true, H') := by
      obtain ⟨H', c, _⟩ := F12.ok H2
      refine ⟨H', L1_step ?_⟩
      rw [if_pos rfl]
      exact ⟨_, _, c, rfl⟩
    by_cases h150 : (j : Int) ≥ 150
    · obtain ⟨H', z⟩ := brk
      refine ⟨H', L0_step ?_⟩
      rw [if_pos (by omega)]
      refine ⟨b1, o1, rfl, by omega, by omega, _, _, _, _, _, _, ra, _, rfl, H2, s1, ?_⟩
      rw [if_pos h150]
      exact z
    · have step : ∃ H', L1 (some ⟨p, 0, none⟩) (some ⟨p2, 0, none⟩) H.next 0 b1 o1 n1 k1 (n1 : Int) (j : Int) (decide ((cs[j].m : Int) > 200)) H2 (.bool true, H') := by
        by_cases hm : (cs[j].m : Int) > 200
        · rw [decide_eq_true hm]; exact brk
        · rw [decide_eq_false hm]
          refine l1 h2 (by omega) (by omega) (hcj.keep hk2) (fun b hb => hcj.lt hb) s2 (by omega) (fun e => by have := hp.q.lt; omega) (fun e => by have := hp.q.own.lt e; omega) (fun e => by have := hp.q2.lt; omega) (fun e => by have := hp.q2.own.lt e; omega) ?_
          intro lost l l2 a n k a2 n2 k2 H3 h3 k3
          exact ih (j + 1) H3 lost l l2 a n k a2 n2 k2 (by omega) (hk2.trans k3) h3
      obtain ⟨H', z⟩ := step
      refine ⟨H', L0_step ?_⟩
      rw [if_pos (by omega)]
      refine ⟨b1, o1, rfl, by omega, by omega, _, _, _, _, _, _, ra, _, rfl, H2, s1, ?_⟩
      rw [if_neg h150]
      exact ⟨_, _, _, ldcs s2 3, z⟩
theorem ok {H : Heap} {a1 : Option Addr} {n1 k1 : Nat} {cs : List PCall} (hs : Sl H 4 a1 n1 k1 (cs.flatMap PCall.cells)) (hc : ∀ c ∈ cs, By H c.a c.m c.k c.bs) (hn : n1 ≤ 140737488355328) (m : Int) : ∃ H', Cq 10 [.int .i64 m, .slice a1 n1 k1] H = some (.bool true, H') := by
  obtain ⟨H1, c1, q1, g1⟩ := F13.ok m H
  obtain ⟨H2, c2, q2, g2⟩ := F29.ok m H1
  have lt1 := q1.lt
  have hp : Pair H.next H2 H.next H1.next (imax 1 (imin m 32)) 0 [] [] none 0 0 none 0 0 := by
    refine ⟨q1.new g2.chg0, q2, ⟨fun b hb => ?_, fun b hb => ?_⟩, rfl, by simp, ?_, fun b hb => ?_, fun b hb => ?_, by simp⟩
    · rcases hb with rfl | hb
      · exact ⟨by omega, In1.none, by simp⟩
      · exact absurd hb In1.none
    · rcases hb with rfl | hb
      · exact ⟨by omega, In1.none, by simp⟩
      · exact absurd hb In1.none
    · unfold imax imin; split <;> split <;> omega
    · rcases hb with rfl | hb
      · exact Nat.le_refl _
      · exact absurd hb In1.none
    · rcases hb with rfl | hb
      · omega
      · exact absurd hb In1.none
  obtain ⟨H', z⟩ := l0 (p := H.next) (p2 := H1.next) hs hc hn n1 0 H2 _ _ _ _ _ _ _ _ _ (by omega) (g1.trans (g2.weak (by omega))) hp
  refine ⟨H', call ⟨_, _, c1, _, _, c2, ?_⟩⟩
  rw [if_neg (by simp)]
  exact z
theorem law {H : Heap} {ds : List (List Value)} (h : HoldsAll H [.int .i64, .slice F11.TCall 48] ds) : ∃ H', Cq 10 (vals [.int .i64, .slice F11.TCall 48] ds) H = some (.bool true, H') := by
  obtain ⟨d0, _, rfl, h0, h⟩ := h.cons
  obtain ⟨d1, _, rfl, h1, h⟩ := h.cons
  obtain rfl := h.nil
  obtain ⟨m, rfl, _⟩ := h0.i
  obtain ⟨a, n, k, cs, rfl, s, _, w, b⟩ := h1.recs (f := PCall.cells) (Q := fun c => By H c.a c.m c.k c.bs) fun vs hv => by
    obtain ⟨a, b, c, x, n, k, xs, rfl, s, _⟩ := F11.callOf hv
    exact ⟨⟨a, b, c, x, n, k, xs⟩, rfl, s⟩
  exact ok s w (by omega) m
end F10
end Go.X
