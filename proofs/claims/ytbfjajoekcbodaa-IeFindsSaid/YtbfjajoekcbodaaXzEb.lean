/- What the writers and readers of bits come to. -/
import Derived.Test.YtbfjajoekcbodaaXzTeB
import Derived.Test.YtbfjajoekcbodaaXzBt
import Derived.Test.YtbfjajoekcbodaaXzS
set_option linter.unusedVariables false
set_option linter.unusedSimpArgs false
namespace Go.X
open Go Go.RowKit Go.Proofs
noncomputable abbrev Cc := xC Try.prog good
abbrev By := Ints .u8
theorem rldc {H : Heap} {p : Nat} {vs : List Value} {own : Bool} (h : H.get p = .row vs own) (i : Nat) : ldc H p i = vs[i]? := by
  unfold ldc; rw [h]
theorem rstc {H : Heap} {p : Nat} {vs : List Value} (h : H.get p = .row vs true) {i : Nat} (hi : i < vs.length) (v : Value) : stc H p i [v] = some (H.set p (.row (vs.set i v) true)) := by
  unfold stc; rw [h]; simp only [List.length_cons, List.length_nil]
  rw [if_pos (by omega)]; rfl
theorem OwnI.putc {K : IntKind} {base : Nat} {H : Heap} {n k b o : Nat} {xs : List Int} (h : OwnI K base H (some ⟨b, o, none⟩) n k xs) {i : Nat} (hi : i < n) (v : Int) :
    ∃ H', stc H b (o + Int.toNat (i : Int) * 1) [.int K v] = some H' ∧ OwnI K base H' (some ⟨b, o, none⟩) n k (xs.set i v) ∧ Chg (In1 (some ⟨b, o, none⟩)) H H' ∧ H'.next = H.next := by
  have hl := h.ln
  obtain ⟨H', c, o2, _, e⟩ := OwnI.put h hi v
  refine ⟨H', c, o2, ?_, e⟩
  obtain ⟨_, ⟨h0, _⟩ | ⟨b', o', cs, h1, h2, h3, h4, h5, h6, h7⟩⟩ := h
  · cases h0
  · cases h1
    unfold stc at c
    rw [h5] at c
    simp only at c
    split at c
    · cases c
      exact Chg.set _ (In1.eq.2 rfl)
    · cases c
theorem tmod8 (n : Nat) : Int.tmod (n : Int) 8 = ((n % 8 : Nat) : Int) := by
  rw [Int.tmod_eq_emod_of_nonneg (by omega)]; omega
/-- A writer. -/
structure WR (H : Heap) (p : Nat) (L : List Bool) (a : Option Addr) (n k : Nat) : Prop where
  row : H.get p = .row [.slice a n k, .int .i64 (L.length : Int)] true
  lt : p < H.next
  own : OwnI .u8 0 H a n k (pack L)
  apart : ¬In1 a p
/-- .. with a new byte, if there is no room. -/
structure WR' (H : Heap) (p : Nat) (L : List Bool) (a : Option Addr) (n k : Nat) : Prop where
  row : H.get p = .row [.slice a n k, .int .i64 (L.length : Int)] true
  lt : p < H.next
  own : OwnI .u8 0 H a n k ((pack L) ++ (if L.length % 8 = 0 then [0] else []))
  apart : ¬In1 a p
section
variable {H H' : Heap} {p : Nat} {L : List Bool} {a : Option Addr} {n k : Nat} {S : Nat → Prop}
theorem WR.chg (h : WR H p L a n k) (c : Chg S H H') (hp : ¬S p) (ha : ∀ b, In1 a b → ¬S b) : WR H' p L a n k :=
  ⟨by rw [c.get p h.lt hp]; exact h.row, Nat.lt_of_lt_of_le h.lt c.next, h.own.chg c ha, h.apart⟩
theorem WR.new (h : WR H p L a n k) (c : Keep H.next H H') : WR H' p L a n k := h.chg (c.chg0 (S := fun _ => False)) (fun h => h) fun _ _ h => h
theorem WR.cnt (h : WR H p L a n k) : n = (L.length + 7) / 8 := by have := h.own.ln; rw [pack_len] at this; omega
end
theorem WR.mk0 (H : Heap) : WR (H.push (.row [.slice none 0 0, .int .i64 0] true)) H.next [] none 0 0 := ⟨by simp, by simp, ⟨rfl, .inl ⟨rfl, rfl, rfl⟩⟩, In1.none⟩
namespace F71
theorem ok (x : Int) (H : Heap) : Cc 71 [.int .i64 x] H = some (.bool (decide (0 ≤ x ∧ x ≤ 64)), H) := by
  refine call ?_
  by_cases h : x ≥ 0
  · rw [if_pos h]
    rw [show decide (x ≤ 64) = decide (0 ≤ x ∧ x ≤ 64) by simp; omega]
  · rw [if_neg h, decide_eq_false (by omega)]
end F71
/-- What a call on a thing with one row of its own turns. -/
structure Ft (p : Nat) (a a' : Option Addr) (H H' : Heap) : Prop where
  chg : Chg (fun b => b = p ∨ In1 a b) H H'
  arr : ∀ b, In1 a' b → In1 a b ∨ H.next ≤ b
theorem Ft.refl {p : Nat} {a : Option Addr} (H : Heap) : Ft p a a H H := ⟨Chg.refl _, fun b h => .inl h⟩
theorem Ft.trans {p : Nat} {a a2 a3 : Option Addr} {H H2 H3 : Heap} (h : Ft p a a2 H H2) (k : Ft p a2 a3 H2 H3) : Ft p a a3 H H3 := by
  have hn := h.chg.next
  refine ⟨h.chg.trans k.chg fun b hb hT => ?_, fun b hb => ?_⟩
  · rcases hT with e | e
    · exact .inl e
    · rcases h.arr b e with e | e
      · exact .inr e
      · omega
  · rcases k.arr b hb with e | e
    · exact h.arr b e
    · exact .inr (by omega)
theorem Ft.keep {p base : Nat} {a a' : Option Addr} {H H' : Heap} (h : Ft p a a' H H') (hb : base ≤ H.next) (hp : base ≤ p) (ha : ∀ b, In1 a b → base ≤ b) : Keep base H H' := h.chg.keep hb fun b _ h => by
  rcases h with h | h
  · omega
  · exact ha b h
theorem Ft.of {p : Nat} {a : Option Addr} {H H' : Heap} (h : Keep H.next H H') : Ft p a a H H' := ⟨h.chg0, fun b h => .inl h⟩
namespace F41
variable {p : Nat}
theorem l2 {v : BitVec 64} {width left : Nat} {L : List Bool} {a : Option Addr} {n k : Nat} {H : Heap} (h : WR' H p L a n k) (h0 : 0 < left) (h64 : left ≤ 64) (hL : L.length ≤ 1099511627776) :
    ∃ H2, WR H2 p (L ++ seg v left (min (8 - L.length % 8) left)) a n k ∧ Ft p a a H H2 ∧ ∀ r, L1 (some ⟨p, 0, none⟩) (nb v) ((left - min (8 - L.length % 8) left : Nat) : Int) H2 r → L2 p 0 (nb v) (left : Int) H r := by
  have hn := h.own.ln
  rw [List.length_append, pack_len] at hn
  have hn' : n = L.length / 8 + 1 := by split at hn <;> simp at hn <;> omega
  obtain ⟨b, o, rfl⟩ := h.own.sl.at (by omega)
  generalize hk : min (8 - L.length % 8) left = m
  have e1 : IntKind.wrap .i64 (8 - Int.tmod (L.length : Int) 8) = ((8 - L.length % 8 : Nat) : Int) := by rw [tmod8, i64 (by omega) (by omega)]; omega
  have e2 : imin ((8 - L.length % 8 : Nat) : Int) (left : Int) = (m : Int) := by unfold imin; split <;> omega
  have e3 : IntKind.wrap .i64 ((left : Int) - (m : Int)) = ((left - m : Nat) : Int) := by rw [i64 (by omega) (by omega)]; omega
  have e4 : IntKind.wrap .i64 (((n : Nat) : Int) - 1) = ((L.length / 8 : Nat) : Int) := by rw [i64 (by omega) (by omega)]; omega
  have e5 : IntKind.wrap .i64 (((8 - L.length % 8 : Nat) : Int) - (m : Int)) = ((8 - L.length % 8 - m : Nat) : Int) := by rw [i64 (by omega) (by omega)]; omega
  have e6 : IntKind.wrap .i64 ((L.length : Int) + (m : Int)) = ((L ++ seg v left m).length : Int) := by rw [i64 (by omega) (by omega), List.length_append, seg_len]; omega
  have el : (L.drop (8 * (L.length / 8))).length = L.length % 8 := by simp; omega
  have hv := byte_or_int v (l := L.drop (8 * (L.length / 8))) (left := left) (k := m) h64 (by omega) (by omega) (x := ((left - m : Nat) : Int)) (y := (m : Int)) (z := ((8 - L.length % 8 - m : Nat) : Int)) rfl rfl (by rw [el])
  obtain ⟨H1, c1, o1, g1, _⟩ := h.own.putc (i := L.length / 8) (by omega) (nb (byteB (L.drop (8 * (L.length / 8)) ++ seg v left m)))
  rw [← pack_put L (seg v left m) (by rw [seg_len]; omega) (by rw [seg_len]; omega)] at o1
  have hp1 : H1.get p = .row [.slice (some ⟨b, o, none⟩) n k, .int .i64 (L.length : Int)] true := by rw [g1.get p h.lt h.apart]; exact h.row
  have g2 : Chg (fun c => c = p) H1 (H1.set p (.row [.slice (some ⟨b, o, none⟩) n k, .int .i64 ((L ++ seg v left m).length : Int)] true)) := Chg.set _ rfl
  refine ⟨_, ⟨?_, Nat.lt_of_lt_of_le h.lt (Nat.le_trans g1.next g2.next), o1.chg g2 fun c hc e => h.apart ((show c = p from e) ▸ hc), h.apart⟩, ⟨(g1.weak (T := fun c => c = p ∨ In1 (some ⟨b, o, none⟩) c) fun c _ h => .inr h).trans g2 fun c _ h => .inl h, fun b h => .inl h⟩, fun r z => ?_⟩
  · simp
  refine L2_step ⟨_, rldc h.row 1, ?_⟩
  rw [e1, e2, e3, e5]
  refine ⟨by omega, by omega, _, _, _, rldc h.row 0, _, _, _, rldc h.row 0, b, o, rfl, ?_⟩
  rw [e4]
  refine ⟨by omega, by omega, _, Ints.get h.own.sl (pack_last L), by omega, by omega, by omega, H1, ?_, _, rldc hp1 1, ?_⟩
  · rw [hv]; exact c1
  rw [e6]
  exact ⟨_, rstc hp1 (i := 1) (by simp) _, z⟩
theorem l1 {v : BitVec 64} : ∀ (left : Nat) (L : List Bool) (a : Option Addr) (n k : Nat) (H : Heap), WR H p L a n k → left ≤ 64 → L.length + left ≤ 1099511627776 →
    ∃ a' n' k' H', L1 (some ⟨p, 0, none⟩) (nb v) (left : Int) H (.tuple #[], H') ∧ WR H' p (L ++ bitsN v left) a' n' k' ∧ Ft p a a' H H' := by
  intro left
  induction left using Nat.strongRecOn with
  | _ left ih =>
  intro L a n k H h h64 hL
  by_cases h0 : left = 0
  · subst h0
    refine ⟨a, n, k, H, L1_step ?_, by simpa [seg] using h, Ft.refl _⟩
    rw [if_neg (by omega)]
  · have hn := h.cnt
    have key : ∀ (a2 : Option Addr) (n2 k2 : Nat) (H2 : Heap), WR' H2 p L a2 n2 k2 → Ft p a a2 H H2 →
        ∃ a' n' k' H', L2 p 0 (nb v) (left : Int) H2 (.tuple #[], H') ∧ WR H' p (L ++ bitsN v left) a' n' k' ∧ Ft p a a' H H' := by
      intro a2 n2 k2 H2 h2 f2
      obtain ⟨H3, w3, g3, st⟩ := l2 (width := 0) (v := v) h2 (by omega) h64 (by omega)
      obtain ⟨a', n', k', H', z1, z2, z3⟩ := ih (left - min (8 - L.length % 8) left) (by omega) _ a2 n2 k2 H3 w3 (by omega) (by rw [List.length_append, seg_len]; omega)
      rw [List.append_assoc, seg_app v (by omega) (Nat.le_refl _) (by omega)] at z2
      exact ⟨a', n', k', H', st _ z1, z2, f2.trans (g3.trans z3)⟩
    by_cases hr : L.length % 8 = 0
    · have k1 : Keep H.next H (H.push (.row [.int .u8 0] true)) := Keep.push _ (Nat.le_refl _)
      have h1 := h.new k1
      have on := OwnI.new (K := .u8) H [0]
      obtain ⟨a2, k2, H2, c2, o2, g2, f2⟩ := Own.append' (by_ := 1) h1.own on.sl (by decide) (Nat.zero_le _) (by simp; omega) (by simp; omega)
      have hp2 : H2.get p = .row [.slice a n k, .int .i64 (L.length : Int)] true := by rw [g2.get p h1.lt h.apart]; exact h1.row
      have g3 : Chg (fun c => c = p) H2 (H2.set p (.row [.slice a2 (n + 1) k2, .int .i64 (L.length : Int)] true)) := Chg.set _ rfl
      have fa : ∀ b, In1 a2 b → In1 a b ∨ H.next ≤ b := fun b hb => by
        rcases f2 b hb with e | e
        · exact .inl e
        · simp at e; exact .inr (by omega)
      have ap2 : ¬In1 a2 p := fun hb => by
        rcases fa p hb with e | e
        · exact h.apart e
        · have := h.lt; omega
      have w2 : WR' (H2.set p (.row [.slice a2 (n + 1) k2, .int .i64 (L.length : Int)] true)) p L a2 (n + 1) k2 := by
        refine ⟨by simp, Nat.lt_of_lt_of_le h1.lt (Nat.le_trans g2.next g3.next), ?_, ap2⟩
        rw [if_pos hr, OwnI, List.map_append]
        exact o2.chg g3 fun c hc e => ap2 ((show c = p from e) ▸ hc)
      obtain ⟨a', n', k', H', z1, z2, z3⟩ := key a2 (n + 1) k2 _ w2 ⟨(k1.chg0 (S := fun b => b = p ∨ In1 a b)).trans ((g2.weak (T := fun b => b = p ∨ In1 a b) fun b _ h => .inr h).trans g3 fun b _ h => .inl h) fun _ _ h => h, fa⟩
      refine ⟨a', n', k', H', L1_step ?_, z2, z3⟩
      rw [if_pos (by omega)]
      refine ⟨p, 0, rfl, _, rldc h.row 1, ?_⟩
      rw [if_pos (by rw [tmod8]; omega)]
      exact ⟨_, _, _, rldc h.row 0, _, rfl, _, _, _, _, c2, _, rstc hp2 (i := 0) (by simp) _, z1⟩
    · obtain ⟨a', n', k', H', z1, z2, z3⟩ := key a n k H ⟨h.row, h.lt, by rw [if_neg hr, List.append_nil]; exact h.own, h.apart⟩ (Ft.refl _)
      refine ⟨a', n', k', H', L1_step ?_, z2, z3⟩
      rw [if_pos (by omega)]
      refine ⟨p, 0, rfl, _, rldc h.row 1, ?_⟩
      rw [if_neg (by rw [tmod8]; omega)]
      exact z1
theorem ok {v : BitVec 64} {width : Nat} {L : List Bool} {a : Option Addr} {n k : Nat} {H : Heap} (h : WR H p L a n k) (hw : width ≤ 64) (hL : L.length + width ≤ 1099511627776) :
    ∃ a' n' k' H', Cc 41 [.pointer (some ⟨p, 0, none⟩), .int .u64 (nb v), .int .i64 (width : Int)] H = some (.tuple #[], H') ∧ WR H' p (L ++ bitsN v width) a' n' k' ∧ Ft p a a' H H' := by
  obtain ⟨a', n', k', H', z1, z2, z3⟩ := l1 (v := v) width L a n k H h hw hL
  refine ⟨a', n', k', H', call ?_, z2, z3⟩
  rw [if_neg (by simp)]
  refine ⟨_, _, F71.ok _ _, L0_step ?_⟩
  rw [decide_eq_true (by omega), if_neg (by simp)]
  exact z1
theorem bad {H : Heap} {x w : Int} (h : w < 0 ∨ 64 < w) : Cc 41 [.pointer (some ⟨p, 0, none⟩), .int .u64 x, .int .i64 w] H = some (.tuple #[], H) := by
  refine call ?_
  rw [if_neg (by simp)]
  refine ⟨_, _, F71.ok _ _, L0_step ?_⟩
  rw [decide_eq_false (by omega), if_pos (by simp)]
theorem nil {H : Heap} {x w : Int} : Cc 41 [.pointer none, .int .u64 x, .int .i64 w] H = some (.tuple #[], H) :=
  call ((if_pos (show (none : Option Addr).isNone = true from rfl)).mpr (L0_step (by rw [if_pos rfl])))
end F41
end Go.X
