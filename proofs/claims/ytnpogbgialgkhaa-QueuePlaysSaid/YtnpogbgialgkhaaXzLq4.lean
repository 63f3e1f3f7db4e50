/- The laws of the queue: what is moved; what may be spoilt. -/
import Derived.Test.YtnpogbgialgkhaaXzLq3
import Derived.Test.YtnpogbgialgkhaaXzRd
set_option linter.unusedVariables false
set_option linter.unusedSimpArgs false
set_option maxRecDepth 20000
namespace Go.X
open Go Go.RowKit Go.Proofs
theorem set_map {xs : List Int} {K : IntKind} (i : Nat) (v : Int) : (xs.map (Value.int K)).set i (.int K v) = (xs.set i v).map (Value.int K) := by rw [List.map_set]
theorem OwnI.putc {K : IntKind} {base : Nat} {H : Heap} {n k b o : Nat} {xs : List Int} (h : OwnI K base H (some ⟨b, o, none⟩) n k xs) {i : Nat} (hi : i < n) (v : Int) :
    ∃ H', stc H b (o + Int.toNat (i : Int) * 1) [.int K v] = some H' ∧ OwnI K base H' (some ⟨b, o, none⟩) n k (xs.set i v) ∧ Chg (In1 (some ⟨b, o, none⟩)) H H' ∧ H'.next = H.next := by
  have hl := h.ln
  obtain ⟨H', c, o2, g, e⟩ := Own.putc h (c := i) (by simp; omega) (.int K v)
  rw [set_map] at o2
  exact ⟨H', by rw [Int.toNat_natCast, Nat.mul_one]; exact c, o2, g, e⟩
def mk3 (xs : List Int) (j : Nat) : List (Int × List Int) := (List.range j).map fun i => (xs.getD i 0, [IntKind.wrap .u8 (i : Int)])
theorem mk3_succ (xs : List Int) (j : Nat) : mk3 xs (j + 1) = mk3 xs j ++ [(xs.getD j 0, [IntKind.wrap .u8 (j : Int)])] := by unfold mk3; rw [List.range_succ, List.map_append]; rfl
theorem mk3_len (xs : List Int) (j : Nat) : (mk3 xs j).length = j := by simp [mk3]
theorem mk3_get (xs : List Int) {j i : Nat} (h : i < j) : (mk3 xs j)[i]? = some (xs.getD i 0, [IntKind.wrap .u8 (i : Int)]) := by simp [mk3, h]
namespace F3
variable {a0 : Option Addr} {n0 k0 : Nat} {xs : List Int} {p : Nat} {f t : Int}
abbrev mvd (f t : Int) (xs : List Int) (n : Nat) : List (Int × List Int) := (mk3 xs n).map fun x => if x.1 = f then (t, x.2) else x
theorem l1 {K : Heap} {B : Nat} {a1 : Option Addr} {k1 : Nat} (hs : Ints .i64 K a0 n0 k0 xs) (ha : Ints .i64 K a1 n0 k1 ((mvd f t xs n0).map Prod.fst)) (hq : QM B K p 32 0 (mvd f t xs n0)) (hn : n0 ≤ 30) :
    ∀ (d i : Nat) (H : Heap), i + d = n0 → Keep K.next K H → ∃ H', L1 f t (some ⟨p, 0, none⟩) a1 n0 k1 a0 n0 k0 (n0 : Int) (i : Int) H (.bool true, H') := by
  intro d
  induction d with
  | zero =>
    intro i H hi hk
    obtain ⟨H', c, _⟩ := F12.ok H
    refine ⟨H', L1_step ?_⟩
    rw [if_neg (by omega)]
    exact ⟨_, _, c, rfl⟩
  | succ d ih =>
    intro i H hi hk
    have hxl := hs.ln
    obtain ⟨b0, o0, rfl⟩ := hs.at (by omega)
    obtain ⟨b1, o1, rfl⟩ := ha.at (by omega)
    have hx : xs[i]? = some (xs.getD i 0) := by simp [List.getD, List.getElem?_eq_getElem (show i < xs.length by omega)]
    have hm : (mvd f t xs n0)[i]? = some (if xs.getD i 0 = f then t else xs.getD i 0, [IntKind.wrap .u8 (i : Int)]) := by
      rw [List.getElem?_map, mk3_get xs (show i < n0 by omega)]
      simp only [Option.map_some]
      by_cases h : xs.getD i 0 = f
      · rw [if_pos h, if_pos h]
      · rw [if_neg h, if_neg h]
    obtain ⟨a2, k2, H2, c2, o2, g2⟩ := F17.okM (hq.keep hk) hm (by simp)
    have hk2 := hk.trans (g2.weak hk.next)
    obtain ⟨b2, o2', rfl⟩ := o2.sl.at (by simp)
    obtain ⟨H', z⟩ := ih (i + 1) H2 (by omega) hk2
    refine ⟨H', L1_step ?_⟩
    rw [if_pos (by omega)]
    refine ⟨b0, o0, rfl, by omega, by omega, _, Ints.get (hs.keep hk) hx, _, _, _, _, _, c2, ?_⟩
    have fin : ∀ y, y = (if xs.getD i 0 = f then t else xs.getD i 0) → L2 f t (some ⟨p, 0, none⟩) (some ⟨b1, o1, none⟩) n0 k1 (i : Int) y (some ⟨b2, o2', none⟩) [IntKind.wrap .u8 (i : Int)].length k2 true b0 o0 n0 k0 (n0 : Int) (i : Int) H2 (.bool true, H') := by
      intro y hy
      refine L2_step ?_
      rw [if_pos rfl, if_pos (by simp)]
      refine ⟨b2, o2', rfl, by omega, by simp, _, by simpa using Ints.get o2.sl (i := 0) rfl, ?_⟩
      rw [if_pos rfl]
      refine ⟨b1, o1, rfl, by omega, by omega, _, Ints.get (ha.keep hk2) (i := i) (by rw [List.getElem?_map, hm]; rfl), ?_⟩
      refine L3_step ?_
      rw [if_neg (by simp [hy])]
      rw [i64 (by omega) (by omega)]
      exact_mod_cast z
    by_cases h : xs.getD i 0 = f
    · rw [if_pos h]
      exact fin t (by rw [if_pos h])
    · rw [if_neg h]
      exact fin _ (by rw [if_neg h])
theorem l0 {G : Heap} (hs : Ints .i64 G a0 n0 k0 xs) (hn : n0 ≤ 30) : ∀ (d j : Nat) (H : Heap), j + d = n0 → Keep G.next G H → QM G.next H p 32 0 (mk3 xs j) →
    ∃ H', L0 a0 n0 k0 f t (some ⟨p, 0, none⟩) (((mk3 xs j).countP (fun x => x.1 = f) : Nat) : Int) a0 n0 k0 (n0 : Int) (j : Int) H (.bool true, H') := by
  intro d
  induction d with
  | zero =>
    intro j H hj hk hq
    have e : j = n0 := by omega
    subst e
    obtain ⟨H1, c1, q1, g1⟩ := F15.okM f t hq (by rw [mk3_len]; omega)
    obtain ⟨a2, k2, H2, c2, o2, g2⟩ := F16.okM q1 (by simp [mk3_len]; omega)
    rw [List.length_map, mk3_len] at c2 o2
    have hk2 := (hk.trans g1).trans (g2.weak (Nat.le_trans hk.next g1.next))
    obtain ⟨H', z⟩ := l1 (p := p) (hs.keep hk2) o2.sl (q1.keep g2) hn j 0 H2 (by omega) (Keep.refl _ _)
    refine ⟨H', L0_step ?_⟩
    rw [if_neg (by omega)]
    refine ⟨_, _, c1, ?_⟩
    rw [if_pos rfl]
    refine ⟨_, _, _, _, c2, ?_⟩
    rw [if_pos rfl]
    exact z
  | succ d ih =>
    intro j H hj hk hq
    have hxl := hs.ln
    obtain ⟨b0, o0, rfl⟩ := hs.at (by omega)
    have hx : xs[j]? = some (xs.getD j 0) := by simp [List.getD, List.getElem?_eq_getElem (show j < xs.length by omega)]
    have o1 := OwnI.new (K := .u8) H [IntKind.wrap .u8 (j : Int)]
    have k1 : Keep H.next H (H.push (.row (List.map (Value.int .u8) [IntKind.wrap .u8 (j : Int)]) true)) := Keep.push _ (Nat.le_refl _)
    obtain ⟨H2, c2, q2, g2⟩ := F14.okM (xs.getD j 0) (hq.keep k1) o1.sl (by simp) (by decide) (by rw [mk3_len]; omega)
    rw [← mk3_succ] at q2
    obtain ⟨H', z⟩ := ih (j + 1) H2 (by omega) ((hk.trans (k1.weak hk.next)).trans g2) q2
    refine ⟨H', L0_step ?_⟩
    rw [if_pos (by omega)]
    refine ⟨b0, o0, rfl, by omega, by omega, _, Ints.get (hs.keep hk) hx, _, rfl, _, _, c2, ?_⟩
    rw [if_pos rfl]
    rw [mk3_succ, List.countP_append] at z
    have hc := List.countP_le_length (l := mk3 xs j) (p := fun x => decide (x.1 = f))
    rw [mk3_len] at hc
    by_cases h : xs.getD j 0 = f
    · rw [if_pos h, i64 (by omega) (by omega), i64 (by omega) (by omega)]
      rw [List.countP_cons_of_pos (by simpa using h), List.countP_nil] at z
      exact_mod_cast z
    · rw [if_neg h, i64 (by omega) (by omega)]
      rw [List.countP_cons_of_neg (by simpa using h), List.countP_nil] at z
      exact_mod_cast z
theorem ok {H : Heap} (hs : Ints .i64 H a0 n0 k0 xs) (f t : Int) : ∃ H', Cq 3 [.slice a0 n0 k0, .int .i64 f, .int .i64 t] H = some (.bool true, H') := by
  by_cases h : (n0 : Int) > 30
  · obtain ⟨H', c, _⟩ := F12.ok H
    refine ⟨H', call ?_⟩
    rw [if_pos h]
    exact ⟨_, _, c, rfl⟩
  · obtain ⟨H1, p, c1, q1, k1⟩ := F13.okM 32 H
    obtain ⟨H', z⟩ := l0 (p := p) (f := f) (t := t) hs (by omega) n0 0 H1 (by omega) k1 q1
    refine ⟨H', call ?_⟩
    rw [if_neg h]
    exact ⟨_, _, c1, z⟩
theorem law {H : Heap} {ds : List (List Value)} (h : HoldsAll H [.slice (.int .i64) 8, .int .i64, .int .i64] ds) : ∃ H', Cq 3 (vals [.slice (.int .i64) 8, .int .i64, .int .i64] ds) H = some (.bool true, H') := by
  obtain ⟨d0, _, rfl, h0, h⟩ := h.cons
  obtain ⟨d1, _, rfl, h1, h⟩ := h.cons
  obtain ⟨d2, _, rfl, h2, h⟩ := h.cons
  obtain rfl := h.nil
  obtain ⟨n1, rfl, _⟩ := h1.i
  obtain ⟨n2, rfl, _⟩ := h2.i
  obtain ⟨a, n, k, xs, rfl, s, b, w⟩ := h0.ints
  exact ok s n1 n2
end F3
theorem i0 : ((0 : Nat) : Int) = 0 := rfl
namespace F4
variable {a0 : Option Addr} {n0 k0 : Nat} {xs : List Int} {p : Nat} {most lost : Int}
theorem l1 {G0 G : Heap} {l : List Item} {a : Option Addr} {n k n6 k6 : Nat} {x : Item} {a6 : Option Addr} (hs : By G0 a0 n0 k0 xs) (hG : Keep G0.next G0 G) (hq : QR G p most lost [x] a n k) (hx : x.bs = xs) (hp : G0.next ≤ p) (ha : ∀ b, In1 a b → G0.next ≤ b) (hn : n0 ≤ 200) (h6 : ∀ b, In1 a6 b → G.next ≤ b) :
    ∀ (d j : Nat) (H : Heap) (ys : List Int), j + d = n6 → n6 ≤ 200 → Keep G.next G H → OwnI .u8 0 H a6 n6 k6 ys → ∃ H', L1 a0 n0 k0 (some ⟨p, 0, none⟩) a6 n6 k6 (n6 : Int) (j : Int) H (.bool true, H') := by
  intro d
  induction d with
  | zero =>
    intro j H ys hj h200 hk ho
    have q := hq.new hk.chg0
    have ni := q.ni (x := x) (by simp)
    have hl := hs.ln
    obtain ⟨a', k', H2, _, _, _, c2, o2, q2, g2, _, f2⟩ := F18.ok q (i := 0) (x := x) rfl (by rw [ni, hx]; omega) (by simp)
    obtain ⟨H3, c3, _⟩ := F12.ok H2
    have hGH := hG.trans (hk.weak hG.next)
    have s2 : By H2 a0 n0 k0 xs := hs.keep (hGH.trans (g2.keep hGH.next fun b hb h => by
      rcases h with rfl | h
      · exact hp
      · exact ha b h))
    refine ⟨H3, L1_step ?_⟩
    rw [if_neg (by omega)]
    refine ⟨_, _, _, _, _, c2, ?_⟩
    rw [if_pos rfl]
    refine ⟨_, o2.str, _, s2.str, ?_⟩
    rw [if_pos (by rw [hx])]
    refine ⟨_, _, F19.ok q2, ?_⟩
    rw [if_pos (by simp)]
    exact ⟨_, _, c3, rfl⟩
  | succ d ih =>
    intro j H ys hj h200 hk ho
    obtain ⟨b, o, rfl⟩ := ho.sl.at (by omega)
    have hyl := ho.ln
    have hy : ys[j]? = some (ys.getD j 0) := by simp [List.getD, List.getElem?_eq_getElem (show j < ys.length by omega)]
    obtain ⟨H1, c1, o1, g1, _⟩ := ho.putc (i := j) (by omega) (ixor .u8 (ys.getD j 0) 255)
    obtain ⟨H', z⟩ := ih (j + 1) H1 _ (by omega) h200 (hk.trans (g1.keep hk.next fun c _ h => h6 c h)) o1
    refine ⟨H', L1_step ?_⟩
    rw [if_pos (by omega)]
    refine ⟨b, o, rfl, by omega, by omega, _, Ints.get ho.sl hy, by omega, by omega, _, c1, ?_⟩
    rw [i64 (by omega) (by omega)]
    exact_mod_cast z
theorem l0 {G0 : Heap} {a : Option Addr} {n k : Nat} {x : Item} {a4 : Option Addr} {k4 : Nat} (hs : By G0 a0 n0 k0 xs) (hx : x.bs = xs) (hp : G0.next ≤ p) (ha : ∀ b, In1 a b → G0.next ≤ b) (hn : n0 ≤ 200) (h4 : ∀ b, In1 a4 b → G0.next ≤ b ∧ b ≠ p ∧ ¬In1 a b ∧ ¬In1 x.a b) :
    ∀ (d j : Nat) (H : Heap) (ys : List Int), j + d = n0 → Keep G0.next G0 H → QR H p most lost [x] a n k → OwnI .u8 0 H a4 n0 k4 ys → ∃ H', L0 a0 n0 k0 (some ⟨p, 0, none⟩) a4 n0 k4 (n0 : Int) (j : Int) H (.bool true, H') := by
  intro d
  induction d with
  | zero =>
    intro j H ys hj hk hq ho
    have ni := hq.ni (x := x) (by simp)
    have hl := hs.ln
    obtain ⟨a', k', H2, c2, o2, g2⟩ := F17.ok hq (i := 0) (x := x) rfl (by rw [ni, hx]; omega)
    obtain ⟨H', z⟩ := l1 (l := []) hs hk hq hx hp ha hn (a6 := a') (n6 := x.n) (k6 := k') (fun b hb => (o2.lt hb).1) x.n 0 H2 x.bs (by omega) (by rw [ni, hx]; omega) g2 (o2.weak (Nat.zero_le _))
    refine ⟨H', L0_step ?_⟩
    rw [if_neg (by omega)]
    exact ⟨_, _, _, _, _, c2, z⟩
  | succ d ih =>
    intro j H ys hj hk hq ho
    obtain ⟨b, o, rfl⟩ := ho.sl.at (by omega)
    have hyl := ho.ln
    have hy : ys[j]? = some (ys.getD j 0) := by simp [List.getD, List.getElem?_eq_getElem (show j < ys.length by omega)]
    obtain ⟨H1, c1, o1, g1, _⟩ := ho.putc (i := j) (by omega) (ixor .u8 (ys.getD j 0) 255)
    have h5 := h4 b ⟨o, rfl⟩
    have q1 := hq.chg g1 (fun h => h5.2.1 (In1.eq.1 h).symm) (fun c hc h => h5.2.2.1 (In1.eq.1 h ▸ hc)) (fun y hy c hc h => h5.2.2.2 (by simp only [List.mem_singleton] at hy; subst hy; exact In1.eq.1 h ▸ hc))
    obtain ⟨H', z⟩ := ih (j + 1) H1 _ (by omega) (hk.trans (g1.keep hk.next fun c _ h => (h4 c h).1)) q1 o1
    refine ⟨H', L0_step ?_⟩
    rw [if_pos (by omega)]
    refine ⟨b, o, rfl, by omega, by omega, _, Ints.get ho.sl hy, by omega, by omega, _, c1, ?_⟩
    rw [i64 (by omega) (by omega)]
    exact_mod_cast z
theorem ok {H : Heap} (hs : By H a0 n0 k0 xs) : ∃ H', Cq 4 [.slice a0 n0 k0] H = some (.bool true, H') := by
  by_cases h : (n0 : Int) > 200
  · obtain ⟨H', c, _⟩ := F12.ok H
    refine ⟨H', call ?_⟩
    rw [if_pos h]
    exact ⟨_, _, c, rfl⟩
  · obtain ⟨H1, c1, q1, k1⟩ := F13.ok 4 H
    have e := OwnI.new (K := .u8) H1 []
    have kx : Keep H1.next H1 (H1.push (.row [] true)) := Keep.push _ (Nat.le_refl _)
    obtain ⟨a3, k3, H3, c3, o3, g3⟩ := OwnI.app 1 e ((hs.keep k1).keep kx) (by simp) (by simp; omega) (by simp; omega)
    simp only [List.length_nil, Nat.zero_add, List.nil_append] at c3 o3
    have kH := (kx.trans g3)
    have q3 := q1.new kH.chg0
    have hl := hs.ln
    obtain ⟨a', n', k', x, H4, c4, q4, xt, xb, g4, f4, f4'⟩ := F14.ok 1 q3 o3.sl (by omega) (by decide) (by decide)
    have hH : Keep H.next H H3 := k1.trans (kH.weak k1.next)
    have hH4 : Keep H.next H H4 := hH.trans (g4.keep hH.next fun b hb h => by
      rcases h with rfl | h
      · exact Nat.le_refl _
      · exact absurd h In1.none)
    have lt1 : H.next < H1.next := q1.lt
    have a4 : ∀ b, In1 a' b → H3.next ≤ b := fun b hb => by
      rcases f4' b hb with h | h
      · exact absurd h In1.none
      · exact h
    have h3 : ∀ b, In1 a3 b → H.next < b ∧ b < H3.next := fun b hb => by have := o3.lt hb; omega
    have hn3 := hH.next
    have o4 : OwnI .u8 0 H4 a3 n0 k3 xs := (o3.weak (Nat.zero_le _)).chg g4 fun b hb h => by
      rcases h with h | h
      · have := h3 b hb; omega
      · exact absurd h In1.none
    obtain ⟨H', z⟩ := l0 (p := H.next) hs xb (Nat.le_refl _) (fun b hb => by have := a4 b hb; omega) (by omega) (fun b hb => ⟨by have := h3 b hb; omega, by have := h3 b hb; omega, fun h => by have := a4 b h; have := h3 b hb; omega, fun h => by have := f4 b h; have := h3 b hb; omega⟩) n0 0 H4 xs (by omega) hH4 q4 o4
    refine ⟨H', call ?_⟩
    rw [if_neg h]
    refine ⟨_, _, c1, _, rfl, _, _, _, _, c3, _, _, c4, ?_⟩
    rw [if_pos rfl]
    exact z
theorem law {H : Heap} {ds : List (List Value)} (h : HoldsAll H [.slice (.int .u8) 1] ds) : ∃ H', Cq 4 (vals [.slice (.int .u8) 1] ds) H = some (.bool true, H') := by
  obtain ⟨d0, _, rfl, h0, h⟩ := h.cons
  obtain rfl := h.nil
  obtain ⟨a, n, k, xs, rfl, s, b, w⟩ := h0.ints
  exact ok s
end F4
end Go.X
