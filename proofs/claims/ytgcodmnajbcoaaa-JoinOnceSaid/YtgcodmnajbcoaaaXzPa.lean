/- What the writers and readers of bits come to. -/
import Derived.Test.YtgcodmnajbcoaaaXzTf2
import Derived.Test.YtgcodmnajbcoaaaXzBt
import Derived.Test.YtgcodmnajbcoaaaXzS
import Derived.Test.YtgcodmnajbcoaaaXzRf
import Derived.Test.YtgcodmnajbcoaaaXzLib2
import Derived.Test.YtgcodmnajbcoaaaXzTf1
import Derived.Test.YtgcodmnajbcoaaaXzCrc
import Derived.Test.YtgcodmnajbcoaaaXzDF
import Derived.Test.YtgcodmnajbcoaaaXzTf0
set_option linter.unusedVariables false
set_option linter.unusedSimpArgs false
set_option maxRecDepth 20000
namespace Go.X
open Go Go.RowKit Go.Proofs
noncomputable abbrev Cc := xC Try.prog good
abbrev By := Ints .u8
theorem rldc {H : Heap} {p : Nat} {vs : List Value} {own : Bool} (h : H.get p = .row vs own) (i : Nat) : ldc H p i = vs[i]? := by
  unfold ldc; rw [h]
theorem rstc {H : Heap} {p : Nat} {vs : List Value} (h : H.get p = .row vs true) {i : Nat} (hi : i < vs.length) (v : Value) : stc H p i [v] = some (H.set p (.row (vs.set i v) true)) := by
  unfold stc; rw [h]; simp only [List.length_cons, List.length_nil]
  rw [if_pos (by omega)]; rfl
theorem OwnI.putc {K : IntKind} {base : Nat} {H : Heap} {n k b o : Nat} {xs : List Int} (h : OwnI K base H (some ⟨b, o, none⟩) n k xs) {i : Nat} (hi : i < n) (v : Int) :
    ∃ H', stc H b (o + Int.toNat (i : Int) * 1) [.int K v] = some H' ∧ OwnI K base H' (some ⟨b, o, none⟩) n k (xs.set i v) ∧ Chg (In1 (some ⟨b, o, none⟩)) H H' ∧ H'.next = H.next := by
  have hl := h.ln
  obtain ⟨H', c, o2, _, e⟩ := OwnI.put h hi v
  refine ⟨H', c, o2, ?_, e⟩
  obtain ⟨_, ⟨h0, _⟩ | ⟨b', o', cs, h1, h2, h3, h4, h5, h6, h7⟩⟩ := h
  · cases h0
  · cases h1
    unfold stc at c
    rw [h5] at c
    simp only at c
    split at c
    · cases c
      exact Chg.set _ (In1.eq.2 rfl)
    · cases c
theorem tmod8 (n : Nat) : Int.tmod (n : Int) 8 = ((n % 8 : Nat) : Int) := by
  rw [Int.tmod_eq_emod_of_nonneg (by omega)]; omega
/-- A writer. -/
structure WR (H : Heap) (p : Nat) (L : List Bool) (a : Option Addr) (n k : Nat) : Prop where
  row : H.get p = .row [.slice a n k, .int .i64 (L.length : Int)] true
  lt : p < H.next
  own : OwnI .u8 0 H a n k (pack L)
  apart : ¬In1 a p
/-- .. with a new byte, if there is no room. -/
structure WR' (H : Heap) (p : Nat) (L : List Bool) (a : Option Addr) (n k : Nat) : Prop where
  row : H.get p = .row [.slice a n k, .int .i64 (L.length : Int)] true
  lt : p < H.next
  own : OwnI .u8 0 H a n k ((pack L) ++ (if L.length % 8 = 0 then [0] else []))
  apart : ¬In1 a p
section
variable {H H' : Heap} {p : Nat} {L : List Bool} {a : Option Addr} {n k : Nat} {S : Nat → Prop}
theorem WR.chg (h : WR H p L a n k) (c : Chg S H H') (hp : ¬S p) (ha : ∀ b, In1 a b → ¬S b) : WR H' p L a n k :=
  ⟨by rw [c.get p h.lt hp]; exact h.row, Nat.lt_of_lt_of_le h.lt c.next, h.own.chg c ha, h.apart⟩
theorem WR.new (h : WR H p L a n k) (c : Keep H.next H H') : WR H' p L a n k := h.chg (c.chg0 (S := fun _ => False)) (fun h => h) fun _ _ h => h
theorem WR.cnt (h : WR H p L a n k) : n = (L.length + 7) / 8 := by have := h.own.ln; rw [pack_len] at this; omega
end
theorem WR.mk0 (H : Heap) : WR (H.push (.row [.slice none 0 0, .int .i64 0] true)) H.next [] none 0 0 := ⟨by simp, by simp, ⟨rfl, .inl ⟨rfl, rfl, rfl⟩⟩, In1.none⟩
namespace F60
theorem ok (x : Int) (H : Heap) : Cc 60 [.int .i64 x] H = some (.bool (decide (0 ≤ x ∧ x ≤ 64)), H) := by
  refine call ?_
  by_cases h : x ≥ 0
  · rw [if_pos h]
    rw [show decide (x ≤ 64) = decide (0 ≤ x ∧ x ≤ 64) by simp; omega]
  · rw [if_neg h, decide_eq_false (by omega)]
end F60
/-- What a call on a thing with one row of its own turns. -/
structure Ft (p : Nat) (a a' : Option Addr) (H H' : Heap) : Prop where
  chg : Chg (fun b => b = p ∨ In1 a b) H H'
  arr : ∀ b, In1 a' b → In1 a b ∨ H.next ≤ b
theorem Ft.refl {p : Nat} {a : Option Addr} (H : Heap) : Ft p a a H H := ⟨Chg.refl _, fun b h => .inl h⟩
theorem Ft.trans {p : Nat} {a a2 a3 : Option Addr} {H H2 H3 : Heap} (h : Ft p a a2 H H2) (k : Ft p a2 a3 H2 H3) : Ft p a a3 H H3 := by
  have hn := h.chg.next
  refine ⟨h.chg.trans k.chg fun b hb hT => ?_, fun b hb => ?_⟩
  · rcases hT with e | e
    · exact .inl e
    · rcases h.arr b e with e | e
      · exact .inr e
      · omega
  · rcases k.arr b hb with e | e
    · exact h.arr b e
    · exact .inr (by omega)
theorem Ft.keep {p base : Nat} {a a' : Option Addr} {H H' : Heap} (h : Ft p a a' H H') (hb : base ≤ H.next) (hp : base ≤ p) (ha : ∀ b, In1 a b → base ≤ b) : Keep base H H' := h.chg.keep hb fun b _ h => by
  rcases h with h | h
  · omega
  · exact ha b h
theorem Ft.of {p : Nat} {a : Option Addr} {H H' : Heap} (h : Keep H.next H H') : Ft p a a H H' := ⟨h.chg0, fun b h => .inl h⟩
namespace F46
variable {p : Nat}
theorem l2 {v : BitVec 64} {width left : Nat} {L : List Bool} {a : Option Addr} {n k : Nat} {H : Heap} (h : WR' H p L a n k) (h0 : 0 < left) (h64 : left ≤ 64) (hL : L.length ≤ 1099511627776) :
    ∃ H2, WR H2 p (L ++ seg v left (min (8 - L.length % 8) left)) a n k ∧ Ft p a a H H2 ∧ ∀ r, L1 (some ⟨p, 0, none⟩) (nb v) ((left - min (8 - L.length % 8) left : Nat) : Int) H2 r → L2 p 0 (nb v) (left : Int) H r := by
  have hn := h.own.ln
  rw [List.length_append, pack_len] at hn
  have hn' : n = L.length / 8 + 1 := by split at hn <;> simp at hn <;> omega
  obtain ⟨b, o, rfl⟩ := h.own.sl.at (by omega)
  generalize hk : min (8 - L.length % 8) left = m
  have e1 : IntKind.wrap .i64 (8 - Int.tmod (L.length : Int) 8) = ((8 - L.length % 8 : Nat) : Int) := by rw [tmod8, i64 (by omega) (by omega)]; omega
  have e2 : imin ((8 - L.length % 8 : Nat) : Int) (left : Int) = (m : Int) := by unfold imin; split <;> omega
  have e3 : IntKind.wrap .i64 ((left : Int) - (m : Int)) = ((left - m : Nat) : Int) := by rw [i64 (by omega) (by omega)]; omega
  have e4 : IntKind.wrap .i64 (((n : Nat) : Int) - 1) = ((L.length / 8 : Nat) : Int) := by rw [i64 (by omega) (by omega)]; omega
  have e5 : IntKind.wrap .i64 (((8 - L.length % 8 : Nat) : Int) - (m : Int)) = ((8 - L.length % 8 - m : Nat) : Int) := by rw [i64 (by omega) (by omega)]; omega
  have e6 : IntKind.wrap .i64 ((L.length : Int) + (m : Int)) = ((L ++ seg v left m).length : Int) := by rw [i64 (by omega) (by omega), List.length_append, seg_len]; omega
  have el : (L.drop (8 * (L.length / 8))).length = L.length % 8 := by simp; omega
  have hv := byte_or_int v (l := L.drop (8 * (L.length / 8))) (left := left) (k := m) h64 (by omega) (by omega) (x := ((left - m : Nat) : Int)) (y := (m : Int)) (z := ((8 - L.length % 8 - m : Nat) : Int)) rfl rfl (by rw [el])
  obtain ⟨H1, c1, o1, g1, _⟩ := h.own.putc (i := L.length / 8) (by omega) (nb (byteB (L.drop (8 * (L.length / 8)) ++ seg v left m)))
  rw [← pack_put L (seg v left m) (by rw [seg_len]; omega) (by rw [seg_len]; omega)] at o1
  have hp1 : H1.get p = .row [.slice (some ⟨b, o, none⟩) n k, .int .i64 (L.length : Int)] true := by rw [g1.get p h.lt h.apart]; exact h.row
  have g2 : Chg (fun c => c = p) H1 (H1.set p (.row [.slice (some ⟨b, o, none⟩) n k, .int .i64 ((L ++ seg v left m).length : Int)] true)) := Chg.set _ rfl
  refine ⟨_, ⟨?_, Nat.lt_of_lt_of_le h.lt (Nat.le_trans g1.next g2.next), o1.chg g2 fun c hc e => h.apart ((show c = p from e) ▸ hc), h.apart⟩, ⟨(g1.weak (T := fun c => c = p ∨ In1 (some ⟨b, o, none⟩) c) fun c _ h => .inr h).trans g2 fun c _ h => .inl h, fun b h => .inl h⟩, fun r z => ?_⟩
  · simp
  refine L2_step ⟨_, rldc h.row 1, ?_⟩
  rw [e1, e2, e3, e5]
  refine ⟨by omega, by omega, _, _, _, rldc h.row 0, _, _, _, rldc h.row 0, b, o, rfl, ?_⟩
  rw [e4]
  refine ⟨by omega, by omega, _, Ints.get h.own.sl (pack_last L), by omega, by omega, by omega, H1, ?_, _, rldc hp1 1, ?_⟩
  · rw [hv]; exact c1
  rw [e6]
  exact ⟨_, rstc hp1 (i := 1) (by simp) _, z⟩
theorem l1 {v : BitVec 64} : ∀ (left : Nat) (L : List Bool) (a : Option Addr) (n k : Nat) (H : Heap), WR H p L a n k → left ≤ 64 → L.length + left ≤ 1099511627776 →
    ∃ a' n' k' H', L1 (some ⟨p, 0, none⟩) (nb v) (left : Int) H (.tuple #[], H') ∧ WR H' p (L ++ bitsN v left) a' n' k' ∧ Ft p a a' H H' := by
  intro left
  induction left using Nat.strongRecOn with
  | _ left ih =>
  intro L a n k H h h64 hL
  by_cases h0 : left = 0
  · subst h0
    refine ⟨a, n, k, H, L1_step ?_, by simpa [seg] using h, Ft.refl _⟩
    rw [if_neg (by omega)]
  · have hn := h.cnt
    have key : ∀ (a2 : Option Addr) (n2 k2 : Nat) (H2 : Heap), WR' H2 p L a2 n2 k2 → Ft p a a2 H H2 →
        ∃ a' n' k' H', L2 p 0 (nb v) (left : Int) H2 (.tuple #[], H') ∧ WR H' p (L ++ bitsN v left) a' n' k' ∧ Ft p a a' H H' := by
      intro a2 n2 k2 H2 h2 f2
      obtain ⟨H3, w3, g3, st⟩ := l2 (width := 0) (v := v) h2 (by omega) h64 (by omega)
      obtain ⟨a', n', k', H', z1, z2, z3⟩ := ih (left - min (8 - L.length % 8) left) (by omega) _ a2 n2 k2 H3 w3 (by omega) (by rw [List.length_append, seg_len]; omega)
      rw [List.append_assoc, seg_app v (by omega) (Nat.le_refl _) (by omega)] at z2
      exact ⟨a', n', k', H', st _ z1, z2, f2.trans (g3.trans z3)⟩
    by_cases hr : L.length % 8 = 0
    · have k1 : Keep H.next H (H.push (.row [.int .u8 0] true)) := Keep.push _ (Nat.le_refl _)
      have h1 := h.new k1
      have on := OwnI.new (K := .u8) H [0]
      obtain ⟨a2, k2, H2, c2, o2, g2, f2⟩ := Own.append' (by_ := 1) h1.own on.sl (by decide) (Nat.zero_le _) (by simp; omega) (by simp; omega)
      have hp2 : H2.get p = .row [.slice a n k, .int .i64 (L.length : Int)] true := by rw [g2.get p h1.lt h.apart]; exact h1.row
      have g3 : Chg (fun c => c = p) H2 (H2.set p (.row [.slice a2 (n + 1) k2, .int .i64 (L.length : Int)] true)) := Chg.set _ rfl
      have fa : ∀ b, In1 a2 b → In1 a b ∨ H.next ≤ b := fun b hb => by
        rcases f2 b hb with e | e
        · exact .inl e
        · simp at e; exact .inr (by omega)
      have ap2 : ¬In1 a2 p := fun hb => by
        rcases fa p hb with e | e
        · exact h.apart e
        · have := h.lt; omega
      have w2 : WR' (H2.set p (.row [.slice a2 (n + 1) k2, .int .i64 (L.length : Int)] true)) p L a2 (n + 1) k2 := by
        refine ⟨by simp, Nat.lt_of_lt_of_le h1.lt (Nat.le_trans g2.next g3.next), ?_, ap2⟩
        rw [if_pos hr, OwnI, List.map_append]
        exact o2.chg g3 fun c hc e => ap2 ((show c = p from e) ▸ hc)
      obtain ⟨a', n', k', H', z1, z2, z3⟩ := key a2 (n + 1) k2 _ w2 ⟨(k1.chg0 (S := fun b => b = p ∨ In1 a b)).trans ((g2.weak (T := fun b => b = p ∨ In1 a b) fun b _ h => .inr h).trans g3 fun b _ h => .inl h) fun _ _ h => h, fa⟩
      refine ⟨a', n', k', H', L1_step ?_, z2, z3⟩
      rw [if_pos (by omega)]
      refine ⟨p, 0, rfl, _, rldc h.row 1, ?_⟩
      rw [if_pos (by rw [tmod8]; omega)]
      exact ⟨_, _, _, rldc h.row 0, _, rfl, _, _, _, _, c2, _, rstc hp2 (i := 0) (by simp) _, z1⟩
    · obtain ⟨a', n', k', H', z1, z2, z3⟩ := key a n k H ⟨h.row, h.lt, by rw [if_neg hr, List.append_nil]; exact h.own, h.apart⟩ (Ft.refl _)
      refine ⟨a', n', k', H', L1_step ?_, z2, z3⟩
      rw [if_pos (by omega)]
      refine ⟨p, 0, rfl, _, rldc h.row 1, ?_⟩
      rw [if_neg (by rw [tmod8]; omega)]
      exact z1
theorem ok {v : BitVec 64} {width : Nat} {L : List Bool} {a : Option Addr} {n k : Nat} {H : Heap} (h : WR H p L a n k) (hw : width ≤ 64) (hL : L.length + width ≤ 1099511627776) :
    ∃ a' n' k' H', Cc 46 [.pointer (some ⟨p, 0, none⟩), .int .u64 (nb v), .int .i64 (width : Int)] H = some (.tuple #[], H') ∧ WR H' p (L ++ bitsN v width) a' n' k' ∧ Ft p a a' H H' := by
  obtain ⟨a', n', k', H', z1, z2, z3⟩ := l1 (v := v) width L a n k H h hw hL
  refine ⟨a', n', k', H', call ?_, z2, z3⟩
  rw [if_neg (by simp)]
  refine ⟨_, _, F60.ok _ _, L0_step ?_⟩
  rw [decide_eq_true (by omega), if_neg (by simp)]
  exact z1
theorem bad {H : Heap} {x w : Int} (h : w < 0 ∨ 64 < w) : Cc 46 [.pointer (some ⟨p, 0, none⟩), .int .u64 x, .int .i64 w] H = some (.tuple #[], H) := by
  refine call ?_
  rw [if_neg (by simp)]
  refine ⟨_, _, F60.ok _ _, L0_step ?_⟩
  rw [decide_eq_false (by omega), if_pos (by simp)]
theorem nil {H : Heap} {x w : Int} : Cc 46 [.pointer none, .int .u64 x, .int .i64 w] H = some (.tuple #[], H) :=
  call ((if_pos (show (none : Option Addr).isNone = true from rfl)).mpr (L0_step (by rw [if_pos rfl])))
end F46
/-- A reader: what is left, its error. -/
structure RR (H : Heap) (p : Nat) (R : List Bool) (e : Int) (a : Option Addr) (n k : Nat) (B : List Int) (at_ : Nat) : Prop where
  row : H.get p = .row [.slice a n k, .int .i64 (at_ : Int), .int .i64 e] true
  lt : p < H.next
  s : By H a n k B
  isB : IsB B
  apart : ¬In1 a p
  len : at_ + R.length = 8 * n
  rest : (unpack B).drop at_ = R
  small : n ≤ 1099511627776
  err : e ≠ 0 → R = []
def RM (H : Heap) (p : Nat) (a : Option Addr) (R : List Bool) (e : Int) : Prop := ∃ n k B at_, RR H p R e a n k B at_
/-- What a call on a reader turns. -/
structure Fd (p : Nat) (a a' : Option Addr) (H H' : Heap) : Prop where
  chg : Chg (fun b => b = p) H H'
  arr : ∀ b, In1 a' b → In1 a b
section
variable {p : Nat} {a a2 a3 : Option Addr} {H H2 H3 : Heap} {R : List Bool} {e : Int} {S : Nat → Prop}
theorem Fd.refl (H : Heap) : Fd p a a H H := ⟨Chg.refl _, fun _ h => h⟩
theorem Fd.trans (h : Fd p a a2 H H2) (k : Fd p a2 a3 H2 H3) : Fd p a a3 H H3 := ⟨h.chg.trans k.chg fun _ _ h => h, fun b hb => h.arr b (k.arr b hb)⟩
theorem Fd.of (h : Keep H.next H H2) : Fd p a a H H2 := ⟨h.chg0, fun _ h => h⟩
theorem Fd.keep {base : Nat} (h : Fd p a a2 H H2) (hb : base ≤ H.next) (hp : base ≤ p) : Keep base H H2 := h.chg.keep hb fun b _ h => by have h : b = p := h; omega
theorem RM.lt (h : RM H p a R e) : p < H.next := by obtain ⟨n, k, B, at_, h⟩ := h; exact h.lt
theorem RM.chg (h : RM H p a R e) (c : Chg S H H2) (hp : ¬S p) (ha : ∀ b, In1 a b → ¬S b) : RM H2 p a R e := by
  obtain ⟨n, k, B, at_, h⟩ := h
  exact ⟨n, k, B, at_, ⟨by rw [c.get p h.lt hp]; exact h.row, Nat.lt_of_lt_of_le h.lt c.next, h.s.chg c ha, h.isB, h.apart, h.len, h.rest, h.small, h.err⟩⟩
theorem RM.new (h : RM H p a R e) (c : Keep H.next H H2) : RM H2 p a R e := h.chg (c.chg0 (S := fun _ => False)) (fun h => h) fun _ _ h => h
theorem RM.err (h : RM H p a R e) (he : e ≠ 0) : R = [] := by obtain ⟨n, k, B, at_, h⟩ := h; exact h.err he
theorem RM.small (h : RM H p a R e) : R.length ≤ 8796093022208 := by obtain ⟨n, k, B, at_, h⟩ := h; have := h.len; have := h.small; omega
end
theorem chgSet {H : Heap} {p : Nat} (o : AObj) : Chg (fun b => b = p) H (H.set p o) := Chg.set (S := fun b => b = p) _ rfl
namespace F48
theorem ok {H : Heap} {p : Nat} {L : List Bool} {a : Option Addr} {n k : Nat} (h : WR H p L a n k) (hL : L.length ≤ 1099511627776) : ∃ a' k' H', Cc 48 [.pointer (some ⟨p, 0, none⟩)] H = some (.slice a' (pack L).length k', H') ∧ OwnI .u8 H.next H' a' (pack L).length k' (pack L) ∧ Keep H.next H H' := by
  have hn := h.cnt
  have hl := pack_len L
  obtain ⟨a', k', H', c, o, g⟩ := OwnI.app (K := .u8) (base := H.next) 1 OwnI.nil h.own.sl (Nat.le_refl _) (by omega) (by omega)
  simp only [Nat.zero_add, List.nil_append] at c o
  rw [show n = (pack L).length by omega] at c o
  refine ⟨a', k', H', call ?_, o, g⟩
  rw [if_neg (by simp)]
  refine ⟨p, 0, rfl, _, _, _, rldc h.row 0, ?_⟩
  rw [show n = (pack L).length by omega]
  exact ⟨_, _, _, _, c, rfl⟩
theorem nil {H : Heap} : Cc 48 [.pointer none] H = some (.slice none 0 0, H) := call ((if_pos (show (none : Option Addr).isNone = true from rfl)).mpr rfl)
end F48
namespace F50
theorem ok {H : Heap} {a : Option Addr} {n k : Nat} {B : List Int} (hs : By H a n k B) (hb : IsB B) (hn : n ≤ 1099511627776) : ∃ p a' H', Cc 50 [.slice a n k] H = some (.pointer (some ⟨p, 0, none⟩), H') ∧ RM H' p a' (unpack B) 0 ∧ H.next ≤ p ∧ (∀ b, In1 a' b → H.next ≤ b) ∧ Keep H.next H H' := by
  obtain ⟨a', k', H1, c, o, g⟩ := OwnI.app (K := .u8) (base := H.next) 1 OwnI.nil hs (Nat.le_refl _) (by omega) (by omega)
  simp only [Nat.zero_add, List.nil_append] at c o
  have k2 : Keep H1.next H1 (H1.push (.row [.slice a' n k', .int .i64 0, .int .i64 0] true)) := Keep.push _ (Nat.le_refl _)
  have hl := hs.ln
  refine ⟨H1.next, a', _, call ⟨_, _, _, _, c, _, rfl, rfl⟩, ⟨n, k', B, 0, ⟨by simp, by simp, o.sl.keep k2, hb, fun h => by have := (o.lt h).2; omega, by rw [unpack_len]; omega, by simp, hn, fun h => absurd rfl h⟩⟩, g.next, fun b hb => (o.lt hb).1, g.trans (k2.weak g.next)⟩
end F50
namespace F75
theorem ok {H : Heap} {p : Nat} {a : Option Addr} {R : List Bool} {e : Int} (h : RM H p a R e) (x : Int) : ∃ H', Cc 75 [.pointer (some ⟨p, 0, none⟩), .int .i64 x] H = some (.tuple #[], H') ∧ RM H' p none [] x ∧ Fd p a none H H' := by
  obtain ⟨n, k, B, at_, h⟩ := h
  refine ⟨((H.set p (.row [.slice a n k, .int .i64 at_, .int .i64 x] true)).set p (.row [.slice none 0 0, .int .i64 at_, .int .i64 x] true)).set p (.row [.slice none 0 0, .int .i64 0, .int .i64 x] true), call ⟨p, 0, rfl, _, rstc h.row (i := 2) (by simp) _, _, rstc (vs := [.slice a n k, .int .i64 at_, .int .i64 x]) (by simp) (i := 0) (by simp) _, _, rstc (vs := [.slice none 0 0, .int .i64 at_, .int .i64 x]) (by simp) (i := 1) (by simp) _, rfl⟩,
    ⟨0, 0, [], 0, ⟨by simp, by simpa using h.lt, Ints.nil, by intro x hx; simp at hx, In1.none, rfl, rfl, by omega, fun _ => rfl⟩⟩, ⟨?_, fun b hb => absurd hb In1.none⟩⟩
  exact ((chgSet _).trans (chgSet _) fun _ _ h => h).trans (chgSet _) fun _ _ h => h
end F75
namespace F69
theorem ok {H : Heap} {p : Nat} {a : Option Addr} {R : List Bool} {e : Int} (h : RM H p a R e) : Cc 69 [.pointer (some ⟨p, 0, none⟩)] H = some (.int .i64 (R.length : Int), H) := by
  obtain ⟨n, k, B, at_, h⟩ := h
  have := h.len
  have := h.small
  refine call ?_
  rw [if_neg (by simp)]
  refine ⟨p, 0, rfl, _, _, _, rldc h.row 0, _, rldc h.row 1, ?_⟩
  rw [i64 (n := 8 * (n : Int)) (by omega) (by omega), i64 (by omega) (by omega), show 8 * (n : Int) - (at_ : Int) = (R.length : Int) by omega]
theorem nil {H : Heap} : Cc 69 [.pointer none] H = some (.int .i64 0, H) := call ((if_pos (show (none : Option Addr).isNone = true from rfl)).mpr rfl)
end F69
namespace F55
theorem ok {H : Heap} {p : Nat} {a : Option Addr} {R : List Bool} {e : Int} (h : RM H p a R e) : Cc 55 [.pointer (some ⟨p, 0, none⟩)] H = some (.int .i64 (if e = 0 ∧ R ≠ [] then 3 else e), H) := by
  have c := F69.ok h
  have h0 := h
  obtain ⟨n, k, B, at_, h⟩ := h
  refine call ?_
  rw [if_neg (by simp)]
  refine ⟨p, 0, rfl, _, rldc h.row 2, ?_⟩
  by_cases he : e = 0
  · rw [if_pos he]
    refine ⟨_, _, c, L0_step ?_⟩
    by_cases hR : R = []
    · subst hR
      rw [if_neg (by simp), if_neg (by simp)]
      exact ⟨_, rldc h.row 2, rfl⟩
    · have := List.length_pos_iff.2 hR
      rw [if_pos (by simp; omega), if_pos ⟨he, hR⟩]
  · rw [if_neg he, if_neg (fun h => he h.1)]
    refine L0_step ?_
    rw [if_neg (by simp)]
    exact ⟨_, rldc h.row 2, rfl⟩
theorem nil {H : Heap} : Cc 55 [.pointer none] H = some (.int .i64 1, H) := call ((if_pos (show (none : Option Addr).isNone = true from rfl)).mpr rfl)
end F55
namespace F74
theorem ok {H : Heap} {p : Nat} {a : Option Addr} {b : Bool} {R : List Bool} {e : Int} (h : RM H p a (b :: R) e) : ∃ H', Cc 74 [.pointer (some ⟨p, 0, none⟩)] H = some (.int .u64 (if b then 1 else 0), H') ∧ RM H' p a R e ∧ Fd p a a H H' := by
  have he : e = 0 := Classical.byContradiction fun he => by have := h.err he; cases this
  obtain ⟨n, k, B, at_, h⟩ := h
  have hl := h.len
  have hsm := h.small
  simp only [List.length_cons] at hl
  have hb := h.s.ln
  obtain ⟨c, o, rfl⟩ := h.s.at (by omega)
  have hat : (unpack B)[at_]? = some b := drop_get h.rest
  rw [unpack_get _ (by omega)] at hat
  have hB : B[at_ / 8]? = some (B.getD (at_ / 8) 0) := by simp [List.getD, List.getElem?_eq_getElem (show at_ / 8 < B.length by omega)]
  have e1 : IntKind.wrap .i64 (Int.tdiv (at_ : Int) 8) = ((at_ / 8 : Nat) : Int) := by
    rw [Int.tdiv_eq_ediv_of_nonneg (by omega), i64 (by omega) (by omega)]; omega
  have e2 : IntKind.wrap .i64 (7 - Int.tmod (at_ : Int) 8) = ((7 - at_ % 8 : Nat) : Int) := by rw [tmod8, i64 (by omega) (by omega)]; omega
  refine ⟨H.set p (.row [.slice (some ⟨c, o, none⟩) n k, .int .i64 ((at_ + 1 : Nat) : Int), .int .i64 e] true), call ⟨p, 0, rfl, _, _, _, rldc h.row 0, _, rldc h.row 1, c, o, rfl, ?_⟩, ⟨n, k, B, at_ + 1, ⟨by simp, by simpa using h.lt, h.s.chg (chgSet _) fun d hd e => h.apart ((show d = p from e) ▸ hd), h.isB, h.apart, by omega, drop_next h.rest, h.small, fun h => absurd he h⟩⟩, ⟨chgSet _, fun _ h => h⟩⟩
  rw [e1]
  refine ⟨by omega, by omega, _, Ints.get h.s hB, _, rldc h.row 1, ?_⟩
  rw [e2]
  refine ⟨by omega, _, rldc h.row 1, _, rstc h.row (i := 1) (by simp) _, ?_⟩
  rw [i64 (n := (at_ : Int) + 1) (by omega) (by omega), bit_int' (h.isB _ (List.mem_of_getElem? hB)) (by omega), Option.some.inj hat]
  rfl
end F74
namespace F73
variable {H : Heap} {p : Nat} {a : Option Addr} {R : List Bool} {e : Int}
theorem yes (h : RM H p a R 0) {m : Int} (hm : m ≤ R.length) : Cc 73 [.pointer (some ⟨p, 0, none⟩), .int .i64 m] H = some (.bool true, H) := by
  have c := F69.ok h
  obtain ⟨n, k, B, at_, h⟩ := h
  refine call ?_
  rw [if_neg (by simp)]
  refine ⟨p, 0, rfl, _, rldc h.row 2, L0_step ?_⟩
  rw [if_neg (by simp)]
  refine ⟨_, _, c, ?_⟩
  rw [if_neg (by omega)]
theorem short (h : RM H p a R 0) {m : Int} (hm : (R.length : Int) < m) : ∃ H', Cc 73 [.pointer (some ⟨p, 0, none⟩), .int .i64 m] H = some (.bool false, H') ∧ RM H' p none [] 2 ∧ Fd p a none H H' := by
  have c := F69.ok h
  obtain ⟨H', c2, r, f⟩ := F75.ok h 2
  obtain ⟨n, k, B, at_, h⟩ := h
  refine ⟨H', call ?_, r, f⟩
  rw [if_neg (by simp)]
  refine ⟨p, 0, rfl, _, rldc h.row 2, L0_step ?_⟩
  rw [if_neg (by simp)]
  refine ⟨_, _, c, ?_⟩
  rw [if_pos (by omega)]
  exact ⟨_, c2, rfl⟩
theorem bad (h : RM H p a R e) (he : e ≠ 0) (m : Int) : Cc 73 [.pointer (some ⟨p, 0, none⟩), .int .i64 m] H = some (.bool false, H) := by
  obtain ⟨n, k, B, at_, h⟩ := h
  refine call ?_
  rw [if_neg (by simp)]
  refine ⟨p, 0, rfl, _, rldc h.row 2, L0_step ?_⟩
  rw [if_pos (by simpa using he)]
theorem nil (m : Int) : Cc 73 [.pointer none, .int .i64 m] H = some (.bool false, H) := call ((if_pos (show (none : Option Addr).isNone = true from rfl)).mpr (L0_step (by rw [if_pos rfl])))
end F73
namespace F72
variable {H : Heap} {p : Nat} {a : Option Addr} {R : List Bool} {e : Int}
theorem l1 {w : Nat} (hw : w ≤ 64) : ∀ (d j : Nat) (l R : List Bool) (H : Heap), j + d = w → d ≤ R.length → RM H p a R 0 → ∃ H', L1 (some ⟨p, 0, none⟩) (nb (valOf l)) (w : Int) (j : Int) H (.int .u64 (nb (valOf (l ++ R.take d))), H') ∧ RM H' p a (R.drop d) 0 ∧ Fd p a a H H' := by
  intro d
  induction d with
  | zero =>
    intro j l R H hj hR h
    refine ⟨H, L1_step ?_, by simpa using h, Fd.refl _⟩
    rw [if_neg (by omega)]
    simp
  | succ d ih =>
    intro j l R H hj hR h
    cases R with
    | nil => simp at hR
    | cons b R =>
      simp only [List.length_cons] at hR
      obtain ⟨H1, c1, r1, f1⟩ := F74.ok h
      obtain ⟨H', z, r, f⟩ := ih (j + 1) (l ++ [b]) R H1 (by omega) (by omega) r1
      refine ⟨H', L1_step ?_, by simpa using r, f1.trans f⟩
      rw [if_pos (by omega)]
      refine ⟨_, _, c1, ?_⟩
      rw [val_step, ← valOf_concat, i64 (by omega) (by omega)]
      rw [List.append_assoc, List.singleton_append, ← List.take_succ_cons] at z
      exact_mod_cast z
theorem take (h : RM H p a R 0) {w : Nat} (hw : w ≤ 64) (hR : w ≤ R.length) : ∃ H', Cc 72 [.pointer (some ⟨p, 0, none⟩), .int .i64 (w : Int)] H = some (.int .u64 (nb (valOf (R.take w))), H') ∧ RM H' p a (R.drop w) 0 ∧ Fd p a a H H' := by
  obtain ⟨H', z, r, f⟩ := l1 hw w 0 [] R H (by omega) hR h
  refine ⟨H', call ⟨_, _, F60.ok _ _, ?_⟩, r, f⟩
  rw [if_pos (by simp; omega)]
  refine ⟨_, _, F73.yes h (by omega), L0_step ?_⟩
  rw [if_neg (by simp)]
  exact z
theorem short (h : RM H p a R 0) {w : Nat} (hw : w ≤ 64) (hR : R.length < w) : ∃ H', Cc 72 [.pointer (some ⟨p, 0, none⟩), .int .i64 (w : Int)] H = some (.int .u64 0, H') ∧ RM H' p none [] 2 ∧ Fd p a none H H' := by
  obtain ⟨H', c, r, f⟩ := F73.short h (m := (w : Int)) (by omega)
  refine ⟨H', call ⟨_, _, F60.ok _ _, ?_⟩, r, f⟩
  rw [if_pos (by simp; omega)]
  refine ⟨_, _, c, L0_step ?_⟩
  rw [if_pos (by simp)]
theorem bad (h : RM H p a R e) {w : Int} (hw : w < 0 ∨ 64 < w ∨ e ≠ 0) : Cc 72 [.pointer (some ⟨p, 0, none⟩), .int .i64 w] H = some (.int .u64 0, H) := by
  refine call ⟨_, _, F60.ok _ _, ?_⟩
  by_cases hg : 0 ≤ w ∧ w ≤ 64
  · rw [if_pos (by simpa using hg)]
    refine ⟨_, _, F73.bad h (by omega) _, L0_step ?_⟩
    rw [if_pos (by simp)]
  · rw [if_neg (by simpa using hg)]
    exact L0_step (by rw [if_pos rfl])
theorem nil (w : Int) : Cc 72 [.pointer none, .int .i64 w] H = some (.int .u64 0, H) := by
  refine call ⟨_, _, F60.ok _ _, ?_⟩
  by_cases hg : 0 ≤ w ∧ w ≤ 64
  · rw [if_pos (by simpa using hg)]
    refine ⟨_, _, F73.nil _, L0_step ?_⟩
    rw [if_pos (by simp)]
  · rw [if_neg (by simpa using hg)]
    exact L0_step (by rw [if_pos rfl])
end F72
/-- The bytes that bits make, by eight. -/
def bytesOf (R : List Bool) (n : Nat) : List Int := (List.range n).map fun j => IntKind.wrap .u8 (nb (valOf ((R.drop (8 * j)).take 8)))
theorem bytesOf_len (R : List Bool) (n : Nat) : (bytesOf R n).length = n := by simp [bytesOf]
theorem bytesOf_succ (R : List Bool) (n : Nat) : bytesOf R (n + 1) = bytesOf R n ++ [IntKind.wrap .u8 (nb (valOf ((R.drop (8 * n)).take 8)))] := by unfold bytesOf; rw [List.range_succ, List.map_append]; rfl
theorem pack_fill (L : List Bool) : pack (fillUp L) = pack L := by
  have hl := fillUp_len L
  have hd : ((fillUp L).length + 7) / 8 = (L.length + 7) / 8 := by omega
  unfold pack
  rw [hd]
  refine List.map_congr_left fun j hj => ?_
  have hj : j < (L.length + 7) / 8 := by simpa using hj
  congr 1
  refine byteB_cong fun i hi => ?_
  unfold fillUp
  rw [List.getD, List.getD, List.getElem?_drop, List.getElem?_drop]
  by_cases h : 8 * j + i < L.length
  · rw [List.getElem?_append_left h]
  · rw [List.getElem?_append_right (by omega), List.getElem?_replicate, List.getElem?_eq_none (by omega)]
    split <;> rfl
/-- The bits of bytes that are put. -/
def textBits (xs : List Int) : List Bool := xs.flatMap fun c => bitsN (BitVec.ofInt 64 c) 8
theorem textBits_len (xs : List Int) : (textBits xs).length = 8 * xs.length := by
  unfold textBits
  induction xs with
  | nil => rfl
  | cons x xs ih => rw [List.flatMap_cons, List.length_append, ih, seg_len, List.length_cons]; omega
/-- What taking bytes comes to. -/
def textS (R : List Bool) (e n : Int) : List Int × List Bool × Int := if n ≤ 0 ∨ e ≠ 0 then ([], R, e) else if (R.length : Int) < 8 * n then ([], [], 2) else (bytesOf R n.toNat, R.drop (8 * n.toNat), e)
def takeS (R : List Bool) (e w : Int) : Int × List Bool × Int := if w < 0 ∨ 64 < w ∨ e ≠ 0 then (0, R, e) else if (R.length : Int) < w then (0, [], 2) else (nb (valOf (R.take w.toNat)), R.drop w.toNat, e)
def evenS (R : List Bool) (e : Int) : List Bool × Int := if ∀ b ∈ R.take (R.length % 8), b = false then (R.drop (R.length % 8), e) else ([], 3)
section
variable {H : Heap} {p : Nat} {a : Option Addr} {R : List Bool} {e : Int}
theorem F72.all (h : RM H p a R e) (w : Int) : ∃ a2 H', Cc 72 [.pointer (some ⟨p, 0, none⟩), .int .i64 w] H = some (.int .u64 (takeS R e w).1, H') ∧ RM H' p a2 (takeS R e w).2.1 (takeS R e w).2.2 ∧ Fd p a a2 H H' := by
  unfold takeS
  by_cases h0 : w < 0 ∨ 64 < w ∨ e ≠ 0
  · rw [if_pos h0]
    exact ⟨a, H, F72.bad h h0, h, Fd.refl _⟩
  · rw [if_neg h0]
    have he : e = 0 := by omega
    subst he
    obtain ⟨m, rfl⟩ := Int.eq_ofNat_of_zero_le (show 0 ≤ w by omega)
    by_cases hs : (R.length : Int) < (m : Int)
    · rw [if_pos hs]
      obtain ⟨H', c, r, f⟩ := F72.short h (w := m) (by omega) (by omega)
      exact ⟨none, H', c, r, f⟩
    · rw [if_neg hs]
      obtain ⟨H', c, r, f⟩ := F72.take h (w := m) (by omega) (by omega)
      exact ⟨a, H', c, r, f⟩
end
namespace F38
theorem ok {H : Heap} {p : Nat} {xs : List Int} {e : Int} {Q : Nat → Prop} (h : RFm Q H p xs e) (n : Int) : ∃ a' k' H', Cc 38 [.pointer (some ⟨p, 0, none⟩), .int .i64 n] H = some (.slice a' (rawS xs e n).1.length k', H') ∧ OwnI .u8 H.next H' a' (rawS xs e n).1.length k' (rawS xs e n).1 ∧ RFm Q H' p (rawS xs e n).2.1 (rawS xs e n).2.2 ∧ Chg (fun b => b = p) H H' := by
  obtain ⟨a, m, k, r, hQ⟩ := h
  have hl := r.s.ln
  have hsm := r.sm
  have em : imax 0 n = max 0 n := by unfold imax; split <;> omega
  have fail : ∃ a' k' H', L0 p 0 (max 0 n) true H (.slice a' 0 k', H') ∧ OwnI .u8 H.next H' a' 0 k' [] ∧ RFm Q H' p [] 2 ∧ Chg (fun b => b = p) H H' := by
    have s1 := rstc' r.row (i := 1) (by simp) (.int .i64 2)
    generalize e1 : H.set p (.row ([.slice a m k, .int .i64 e].set 1 (.int .i64 2)) true) = H1 at s1
    have g1 : H1.get p = .row [.slice a m k, .int .i64 2] true := by rw [← e1]; simp
    have n1 : H1.next = H.next := by rw [← e1]; simp
    have c1 : Chg (fun b => b = p) H H1 := by rw [← e1]; exact Chg.set (S := fun b => b = p) _ rfl
    have s2 := rstc' g1 (i := 0) (by simp) (.slice none 0 0)
    generalize e2 : H1.set p (.row ([.slice a m k, .int .i64 2].set 0 (.slice none 0 0)) true) = H2 at s2
    have g2 : H2.get p = .row [.slice none 0 0, .int .i64 2] true := by rw [← e2]; simp
    have n2 : H2.next = H1.next := by rw [← e2]; simp
    have c2 : Chg (fun b => b = p) H1 H2 := by rw [← e2]; exact Chg.set (S := fun b => b = p) _ rfl
    refine ⟨none, 0, H2, L0_step ?_, OwnI.nil, ⟨none, 0, 0, ⟨g2, by have := r.lt; omega, Ints.nil, In1.none, by omega⟩, fun b hb => absurd hb In1.none⟩, c1.trans c2 fun _ _ h => h⟩
    rw [if_pos rfl]
    exact ⟨_, s1, _, s2, rfl⟩
  unfold rawS
  by_cases he : e = 0
  · by_cases hn : (xs.length : Int) < max 0 n
    · rw [if_pos (.inr hn)]
      obtain ⟨a', k', H', z, o, r', c⟩ := fail
      refine ⟨a', k', H', call ⟨p, 0, rfl, _, rldc' r.row 1, ?_⟩, o, r', c⟩
      rw [if_pos he]
      refine ⟨_, _, _, rldc' r.row 0, ?_⟩
      rw [em, decide_eq_true (by omega)]
      exact z
    · rw [if_neg (by omega)]
      have e1 : max 0 n = ((n.toNat : Nat) : Int) := by omega
      have hle : n.toNat ≤ m := by omega
      obtain ⟨a1, k1, p1, s1⟩ := r.s.part none (some ((n.toNat : Nat) : Int)) 0 n.toNat (.inl ⟨rfl, rfl⟩) (.inr rfl) (by omega) hle
      simp only [List.drop_zero, Nat.sub_zero] at p1 s1
      obtain ⟨a2, k2, H2, c2, o2, kp2⟩ := OwnI.app (K := .u8) (base := H.next) 1 OwnI.nil s1 (Nat.le_refl _) (by omega) (by omega)
      simp only [Nat.zero_add, List.nil_append] at c2 o2
      have row2 : H2.get p = .row [.slice a m k, .int .i64 e] true := by rw [kp2.get _ r.lt]; exact r.row
      obtain ⟨a3, k3, p3, s3⟩ := Ints.part (show Ints .u8 H2 a m k xs from r.s.keep kp2) (some ((n.toNat : Nat) : Int)) none n.toNat m (.inr rfl) (.inl ⟨rfl, rfl⟩) hle (Nat.le_refl _)
      have s3' : Ints .u8 H2 a3 (m - n.toNat) k3 (xs.drop n.toNat) := by
        rw [List.take_of_length_le (by simp; omega)] at s3; exact s3
      have ha3 : ∀ b, In1 a3 b → In1 a b := psl_sub p3
      have ap3 : ¬In1 a3 p := fun c => r.ap (ha3 p c)
      have lt := r.lt
      have s4 := rstc' row2 (i := 0) (by simp) (.slice a3 (m - n.toNat) k3)
      generalize e4 : H2.set p (.row ([.slice a m k, .int .i64 e].set 0 (.slice a3 (m - n.toNat) k3)) true) = H4 at s4
      have g4 : H4.get p = .row [.slice a3 (m - n.toNat) k3, .int .i64 e] true := by rw [← e4]; simp
      have n4 : H4.next = H2.next := by rw [← e4]; simp
      have cs : Chg (fun b => b = p) H2 H4 := by rw [← e4]; exact Chg.set (S := fun b => b = p) _ rfl
      have nn := kp2.next
      have lx : (xs.take n.toNat).length = n.toNat := by simp; omega
      rw [lx]
      refine ⟨a2, k2, H4, call ⟨p, 0, rfl, _, rldc' r.row 1, ?_⟩, ?_, ⟨a3, m - n.toNat, k3, ?_, fun b hb => hQ b (ha3 b hb)⟩, kp2.chg0.trans cs fun _ _ h => h⟩
      · rw [if_pos he]
        refine ⟨_, _, _, rldc' r.row 0, ?_⟩
        rw [em, e1, decide_eq_false (by omega)]
        refine L0_step ?_
        rw [if_neg (by simp)]
        exact ⟨_, _, _, rldc' r.row 0, _, _, _, p1, _, _, _, _, c2, _, _, _, rldc' row2 0, _, _, _, p3, H4, s4, rfl⟩
      · exact o2.chg cs fun b hb hbp => by have := (o2.lt hb).1; have hbp : b = p := hbp; omega
      · exact ⟨g4, by omega, s3'.chg cs fun b hb hbp => ap3 ((show b = p from hbp) ▸ hb), ap3, by omega⟩
  · rw [if_pos (.inl he)]
    obtain ⟨a', k', H', z, o, r', c⟩ := fail
    refine ⟨a', k', H', call ⟨p, 0, rfl, _, rldc' r.row 1, ?_⟩, o, r', c⟩
    rw [if_neg he, em]
    exact z
end F38
namespace F36
theorem l0 {H : Heap} {a : Option Addr} {n k : Nat} {xs : List Int} (hs : Ints .u8 H a n k xs) (hb : IsB xs) (hn : n ≤ 1099511627776) : ∀ (rest : List Int) (j : Nat), xs.drop j = rest → j + rest.length = n → L0 (beV (xs.take j)) a n k (n : Int) (j : Int) H (.int .u64 (beV xs), H) := by
  intro rest
  induction rest with
  | nil =>
    intro j hd hj
    simp only [List.length_nil] at hj
    have hl := hs.ln
    rw [List.take_of_length_le (by omega)]
    refine L0_step ?_
    rw [if_neg (by omega)]
  | cons x rest ih =>
    intro j hd hj
    simp only [List.length_cons] at hj
    have hx := drop_get hd
    obtain ⟨b, o, rfl⟩ := hs.at (by omega)
    have z := ih (j + 1) (drop_next hd) (by omega)
    refine L0_step ?_
    rw [if_pos (by omega)]
    refine ⟨b, o, rfl, by omega, by omega, x, Ints.get hs hx, ?_⟩
    rw [beV_snoc (hb.get hx), i64 (by omega) (by omega), show xs.take j ++ [x] = xs.take (j + 1) by rw [List.take_add_one, hx]; rfl]
    exact_mod_cast z
theorem ok {H : Heap} {p : Nat} {xs : List Int} {e : Int} {Q : Nat → Prop} (h : RFm Q H p xs e) (hb : IsB xs) (n : Int) : ∃ H', Cc 36 [.pointer (some ⟨p, 0, none⟩), .int .i64 n] H = some (.int .u64 (beV (rawS xs e n).1), H') ∧ RFm Q H' p (rawS xs e n).2.1 (rawS xs e n).2.2 ∧ Chg (fun b => b = p) H H' := by
  obtain ⟨a', k', H', c, o, r, g⟩ := F38.ok h n
  have hsm : (rawS xs e n).1.length ≤ 1099511627776 := by
    have := rawS_len xs e n
    obtain ⟨_, m, _, r, _⟩ := h
    have := r.sm; have := r.s.ln; omega
  have z := l0 o.sl (rawS_isB hb e n).1 hsm (rawS xs e n).1 0 rfl (by omega)
  rw [List.take_zero, beV_nil] at z
  exact ⟨H', call ⟨_, _, _, _, c, z⟩, r, g⟩
end F36
namespace F37
theorem ok {H : Heap} {p : Nat} {xs : List Int} {e : Int} {Q : Nat → Prop} (h : RFm Q H p xs e) (hb : IsB xs) : ∃ H', Cc 37 [.pointer (some ⟨p, 0, none⟩)] H = some (.int .i64 ((rawS xs e 1).1.getD 0 0), H') ∧ RFm Q H' p (rawS xs e 1).2.1 (rawS xs e 1).2.2 ∧ Chg (fun b => b = p) H H' := by
  obtain ⟨H', c, r, g⟩ := F36.ok h hb 1
  refine ⟨H', call ⟨_, _, c, ?_⟩, r, g⟩
  have hv : beV (rawS xs e 1).1 = (rawS xs e 1).1.getD 0 0 := by
    have hl : (rawS xs e 1).1 = [] ∨ ∃ x, (rawS xs e 1).1 = [x] ∧ 0 ≤ x ∧ x < 256 := by
      have hi := (rawS_isB hb e 1).1
      unfold rawS at hi ⊢
      split
      · exact .inl rfl
      · rename_i hc
        rw [if_neg hc] at hi
        cases xs with
        | nil => exact .inl rfl
        | cons x xs => exact .inr ⟨x, by simp, hi x (by simp)⟩
    rcases hl with hl | ⟨x, hl, hx⟩
    · rw [hl]; exact beV_nil
    · rw [hl, beV_one hx]; rfl
  have hr := (rawS_isB hb e 1).1
  have : 0 ≤ (rawS xs e 1).1.getD 0 0 ∧ (rawS xs e 1).1.getD 0 0 < 256 := by
    cases hh : (rawS xs e 1).1 with
    | nil => simp
    | cons x l => rw [hh] at hr; exact hr x (by simp)
  rw [hv, i64 (by omega) (by omega)]
end F37
namespace F40
theorem ok {H : Heap} {p : Nat} {xs : List Int} {e : Int} {Q : Nat → Prop} (h : RFm Q H p xs e) : Cc 40 [.pointer (some ⟨p, 0, none⟩)] H = some (.int .i64 (if e = 0 ∧ xs ≠ [] then 3 else e), H) := by
  obtain ⟨a, n, k, r, _⟩ := h
  have hl := r.s.ln
  refine call ⟨p, 0, rfl, _, rldc' r.row 1, ?_⟩
  by_cases he : e = 0
  · rw [if_pos he]
    refine ⟨_, _, _, rldc' r.row 0, L0_step ?_⟩
    by_cases hx : xs = []
    · subst hx
      rw [if_neg (by simp at hl ⊢; omega), if_neg (by simp)]
      exact ⟨_, rldc' r.row 1, rfl⟩
    · have := List.length_pos_iff.2 hx
      rw [if_pos (by simp; omega), if_pos ⟨he, hx⟩]
  · rw [if_neg he, if_neg fun c => he c.1]
    refine L0_step ?_
    rw [if_neg (by simp)]
    exact ⟨_, rldc' r.row 1, rfl⟩
end F40
namespace F32
theorem l0 {base n : Nat} {v : BitVec 64} (hn : n ≤ 8) : ∀ (d k : Nat) (xs : List Int) (a : Option Addr) (c : Nat) (H : Heap), k + d = n → xs.length = k → IsB xs → tbits xs = seg v (8 * n) (8 * k) → OwnI .u8 base H a k c xs → base ≤ H.next →
    ∃ a' k' H', L0 (nb v) a k c ((d : Int) - 1) H (.slice a' (pack (bitsN v (8 * n))).length k', H') ∧ OwnI .u8 base H' a' (pack (bitsN v (8 * n))).length k' (pack (bitsN v (8 * n))) ∧ Keep base H H' := by
  intro d
  induction d with
  | zero =>
    intro k xs a c H hk hl hb hx ho hbase
    have : k = n := by omega
    subst this
    have hp : pack (bitsN v (8 * k)) = xs := by rw [show bitsN v (8 * k) = tbits xs from hx.symm, pack_tbits hb]
    rw [hp, hl]
    refine ⟨a, c, H, L0_step ?_, ho, Keep.refl _ _⟩
    rw [if_neg (by omega)]
  | succ d ih =>
    intro k xs a c H hk hl hb hx ho hbase
    have hd : n - 1 - k = d := by omega
    obtain ⟨H1, e1, m1, g1, k1⟩ := one H [.int .u8 (IntKind.wrap .u8 (nb (v >>> (8 * d))))]
    have s1 : Ints .u8 H1 (some ⟨H.next, 0, none⟩) 1 (UNK 1) [IntKind.wrap .u8 (nb (v >>> (8 * d)))] := Sl.ofRow g1 (by omega)
    obtain ⟨a2, k2, H2, c2, o2, kp2⟩ := OwnI.app 1 (ho.keep k1) s1 (by omega) (by omega) (by omega)
    have := tbits_seg hx (by omega)
    rw [hd] at this
    obtain ⟨a3, k3, H3, z, o3, kp3⟩ := ih (k + 1) _ a2 k2 H2 (by omega) (by simp [hl]) (isB_app hb (isB_cons (wrap8_b _) isB_nil)) this o2 (by have := kp2.next; omega)
    refine ⟨a3, k3, H3, L0_step ?_, o3, ((k1.weak hbase).trans kp2).trans kp3⟩
    have e8 : IntKind.wrap .u64 (IntKind.wrap .i64 (8 * (((d + 1 : Nat) : Int) - 1))) = ((8 * d : Nat) : Int) := by
      rw [i64 (by omega) (by omega), u64 (by omega) (by omega)]; omega
    have es : ishr .u64 (nb v) ((8 * d : Nat) : Int) = nb (v >>> (8 * d)) := ishr_nb (k := .u64) v (8 * d) (show 8 * d ≤ 64 by omega)
    rw [if_pos (by omega), e8, es, i64 (by omega) (by omega)]
    refine ⟨by omega, H1, e1, _, _, _, _, c2, ?_⟩
    rw [show (((d + 1 : Nat) : Int) - 1 - 1) = ((d : Int) - 1) by omega]
    exact z
theorem ok {v : BitVec 64} {n : Nat} (hn : n ≤ 8) (H : Heap) : ∃ a' k' H', Cc 32 [.int .u64 (nb v), .int .i64 (n : Int)] H = some (.slice a' (pack (bitsN v (8 * n))).length k', H') ∧ OwnI .u8 H.next H' a' (pack (bitsN v (8 * n))).length k' (pack (bitsN v (8 * n))) ∧ Keep H.next H H' := by
  obtain ⟨a', k', H', z, o, g⟩ := l0 (base := H.next) (v := v) hn n 0 [] none 0 H (by omega) rfl isB_nil rfl OwnI.nil (Nat.le_refl _)
  refine ⟨a', k', H', call ?_, o, g⟩
  rw [i64 (by omega) (by omega)]
  exact z
theorem be (x : Int) {n : Nat} (hn : n ≤ 8) (H : Heap) : ∃ a' k' H', Cc 32 [.int .u64 (IntKind.wrap .u64 x), .int .i64 (n : Int)] H = some (.slice a' n k', H') ∧ OwnI .u8 H.next H' a' n k' (beB x n) ∧ Keep H.next H H' := by
  obtain ⟨a', k', H', z, o, g⟩ := ok (v := BitVec.ofInt 64 x) hn H
  have hl : (pack (bitsN (BitVec.ofInt 64 x) (8 * n))).length = n := beB_len x n
  rw [hl] at z o
  exact ⟨a', k', H', by rw [nb_wrap]; exact z, o, g⟩
end F32
/-- Slices of bytes that are put together. -/
structure Bs where
  a : Option Addr
  n : Nat
  k : Nat
  xs : List Int
abbrev Bs.cell (b : Bs) : Value := .slice b.a b.n b.k
namespace F31
theorem l0 {G : Heap} {s : Option Addr} {sn sk : Nat} {l : List Bs} (hs : Sl G 1 s sn sk (l.map Bs.cell)) (hl : ∀ b ∈ l, By G b.a b.n b.k b.xs) (hn : sn ≤ 10) (hsz : ∀ b ∈ l, b.n ≤ 1000) : ∀ (rest : List Bs) (j : Nat) (xs : List Int) (a : Option Addr) (k : Nat) (H : Heap), l.drop j = rest → j + rest.length = sn → Keep G.next G H → OwnI .u8 G.next H a xs.length k xs → xs.length ≤ 1000 * j →
    ∃ a' k' H', L0 a xs.length k s sn sk (sn : Int) (j : Int) H (.slice a' (xs ++ rest.flatMap Bs.xs).length k', H') ∧ OwnI .u8 G.next H' a' (xs ++ rest.flatMap Bs.xs).length k' (xs ++ rest.flatMap Bs.xs) ∧ Keep G.next G H' := by
  intro rest
  induction rest with
  | nil =>
    intro j xs a k H hd hj hk ho hx
    simp only [List.length_nil] at hj
    rw [List.flatMap_nil, List.append_nil]
    refine ⟨a, k, H, L0_step ?_, ho, hk⟩
    rw [if_neg (by omega)]
  | cons b rest ih =>
    intro j xs a k H hd hj hk ho hx
    simp only [List.length_cons] at hj
    have hb := drop_get hd
    have hmem := List.mem_of_getElem? hb
    obtain ⟨c, o, rfl⟩ := hs.at (by omega)
    have sb := (hl b hmem).keep hk
    have hbn := Ints.ln (hl b hmem)
    have hsz1 := hsz b hmem
    obtain ⟨a2, k2, H2, c2, o2, kp2⟩ := OwnI.app 1 ho sb hk.next (by omega) (by omega)
    rw [← hbn, ← List.length_append] at o2
    obtain ⟨a', k', H', z, o', k''⟩ := ih (j + 1) (xs ++ b.xs) a2 k2 H2 (drop_next hd) (by omega) (hk.trans kp2) o2 (by rw [List.length_append]; omega)
    rw [List.append_assoc, ← List.flatMap_cons] at z o'
    refine ⟨a', k', H', L0_step ?_, o', k''⟩
    rw [if_pos (by omega)]
    have ld : ldc H c (o + Int.toNat (j : Int) * 1) = some (.slice b.a b.n b.k) := by
      rw [Int.toNat_natCast]
      exact (hs.keep hk).ld1 (by rw [List.getElem?_map, hb]; rfl)
    refine ⟨c, o, rfl, by omega, by omega, _, _, _, ld, _, _, _, _, c2, ?_⟩
    rw [i64 (by omega) (by omega), ← hbn, ← List.length_append]
    exact_mod_cast z
theorem ok {H : Heap} {s : Option Addr} {sn sk : Nat} {l : List Bs} (hs : Sl H 1 s sn sk (l.map Bs.cell)) (hl : ∀ b ∈ l, By H b.a b.n b.k b.xs) (hn : sn ≤ 10) (hsz : ∀ b ∈ l, b.n ≤ 1000) : ∃ a' k' H', Cc 31 [.slice s sn sk] H = some (.slice a' (l.flatMap Bs.xs).length k', H') ∧ OwnI .u8 H.next H' a' (l.flatMap Bs.xs).length k' (l.flatMap Bs.xs) ∧ Keep H.next H H' := by
  have hc : l.length = sn := by have := hs.len; simpa using this
  obtain ⟨a', k', H', z, o, g⟩ := l0 hs hl hn hsz l 0 [] none 0 H rfl (by omega) (Keep.refl _ _) OwnI.nil (by simp)
  rw [List.nil_append] at z o
  exact ⟨a', k', H', call z, o, g⟩
end F31
/-- The reference's reader behind so many bytes. -/
abbrev RJ (Q : Nat → Prop) (H : Heap) (p : Nat) (bs : List Int) (j : Nat) : Prop := RFm Q H p (rfX bs j) (rfE bs j)
section
variable {Q : Nat → Prop} {H : Heap} {p : Nat} {bs : List Int} {j : Nat}
theorem RJ.raw (h : RJ Q H p bs j) (m : Nat) : ∃ a' k' H', Cc 38 [.pointer (some ⟨p, 0, none⟩), .int .i64 (m : Int)] H = some (.slice a' (rfT bs j m).length k', H') ∧ OwnI .u8 H.next H' a' (rfT bs j m).length k' (rfT bs j m) ∧ RJ Q H' p bs (j + m) ∧ Chg (fun b => b = p) H H' := by
  have := F38.ok h (m : Int)
  rw [rawS_st] at this
  exact this
/-- A number of so many bytes. -/
def rfN (bs : List Int) (j w : Nat) : Int := if j + w ≤ bs.length then beV ((bs.drop j).take w) else 0
theorem rfV (bs : List Int) (j w : Nat) : beV (rfT bs j w) = rfN bs j w := by
  unfold rfT rfN
  split
  · rfl
  · exact beV_nil
theorem RJ.num (hb : IsB bs) (h : RJ Q H p bs j) (m : Nat) : ∃ H', Cc 36 [.pointer (some ⟨p, 0, none⟩), .int .i64 (m : Int)] H = some (.int .u64 (rfN bs j m), H') ∧ RJ Q H' p bs (j + m) ∧ Chg (fun b => b = p) H H' := by
  have := F36.ok h (rfX_isB hb j) (m : Int)
  rw [rawS_st, rfV] at this
  exact this
theorem RJ.u8 (hb : IsB bs) (h : RJ Q H p bs j) : ∃ H', Cc 37 [.pointer (some ⟨p, 0, none⟩)] H = some (.int .i64 (bs.getD j 0), H') ∧ RJ Q H' p bs (j + 1) ∧ Chg (fun b => b = p) H H' := by
  have := F37.ok h (rfX_isB hb j)
  rw [show (1 : Int) = ((1 : Nat) : Int) from rfl, rawS_st, rfT_one] at this
  exact this
theorem RJ.fin (h : RJ Q H p bs j) : Cc 40 [.pointer (some ⟨p, 0, none⟩)] H = some (.int .i64 (if bs.length < j then 2 else if j < bs.length then 3 else 0), H) := by
  have := F40.ok h
  rw [rfEnd] at this
  exact this
end
theorem Ints.get1 {H : Heap} {b o : Nat} {n k : Nat} {xs : List Int} (h : Ints .u8 H (some ⟨b, o, none⟩) n k xs) {i : Nat} {x : Int} (hx : xs[i]? = some x) : ldc H b (o + i * 1) = some (.int .u8 x) := h.ld1 (by rw [List.getElem?_map, hx]; rfl)
def sealB (s : BitVec 32) (x : Int) : BitVec 32 := (s ^^^ BitVec.ofInt 32 x) * 16777619#32
def sealL (s : BitVec 32) (xs : List Int) : BitVec 32 := xs.foldl sealB s
def keyB (key : Int) (i : Nat) : Int := IntKind.wrap .u8 (ishr .u64 key (8 * (7 - (i : Int))))
def kb (key : Int) : List Int := (List.range 8).map (keyB key)
def tagB (key : Int) (xs : List Int) : BitVec 32 := sealL (sealL (sealL 2166136261#32 (kb key)) xs) (kb key)
theorem sealB_int (s : BitVec 32) (x : Int) : IntKind.wrap .u32 ((ixor .u32 (nb s) (IntKind.wrap .u32 x)) * 16777619) = nb (sealB s x) := by
  rw [wrap_nb (k := .u32) rfl x]
  have e : ixor .u32 (nb s) (nb (BitVec.ofInt IntKind.u32.bits x)) = nb (s ^^^ BitVec.ofInt 32 x) := ixor_nb (k := .u32) rfl s _
  rw [e]
  exact mul_nb (k := .u32) rfl (s ^^^ BitVec.ofInt 32 x) 16777619#32
theorem mul_inj {a b : BitVec 32} (h : a * 16777619#32 = b * 16777619#32) : a = b := by
  have h2 := congrArg (· * 899433627#32) h
  simp only [BitVec.mul_assoc] at h2
  rw [show (16777619#32 * 899433627#32 : BitVec 32) = 1#32 by decide, BitVec.mul_one, BitVec.mul_one] at h2
  exact h2
theorem xor_cancel {n : Nat} {a b c : BitVec n} (h : a ^^^ c = b ^^^ c) : a = b := by
  have := congrArg (· ^^^ c) h
  simpa [BitVec.xor_assoc] using this
theorem sealL_inj : ∀ (xs : List Int) {a b : BitVec 32}, sealL a xs = sealL b xs → a = b := by
  intro xs
  induction xs with
  | nil => intro a b h; exact h
  | cons x xs ih =>
    intro a b h
    exact xor_cancel (mul_inj (ih (show sealL (sealB a x) xs = sealL (sealB b x) xs from h)))
theorem sealL_append (s : BitVec 32) (xs ys : List Int) : sealL s (xs ++ ys) = sealL (sealL s xs) ys := List.foldl_append

structure Upd (H H' : Heap) (b : Nat) (o : AObj) : Prop where
  next : H'.next = H.next
  at_ : H'.get b = o
  off : ∀ i, i ≠ b → H'.get i = H.get i
theorem Upd.set (H : Heap) (b : Nat) (o : AObj) : Upd H (H.set b o) b o := ⟨rfl, by simp, fun i hi => Heap.get_set_ne _ _ _ _ hi⟩
theorem Upd.trans {H H1 H2 : Heap} {b : Nat} {o o' : AObj} (h : Upd H H1 b o) (k : Upd H1 H2 b o') : Upd H H2 b o' := ⟨k.next.trans h.next, k.at_, fun i hi => (k.off i hi).trans (h.off i hi)⟩
theorem Upd.keep {H H' : Heap} {b base : Nat} {o : AObj} (h : Upd H H' b o) (hb : base ≤ b) : Keep base H H' := ⟨by rw [h.next]; exact Nat.le_refl _, fun i hi => h.off i (by omega)⟩
theorem ldc_row {H : Heap} {b : Nat} {v : Value} {own : Bool} (h : H.get b = .row [v] own) : ldc H b 0 = some v := by unfold ldc; rw [h]; rfl
theorem stc_row {H : Heap} {b : Nat} {v w : Value} (h : H.get b = .row [v] true) : stc H b 0 [w] = some (H.set b (.row [w] true)) := by unfold stc; rw [h]; rfl
theorem goes61 : fnGoes Try.prog 61 = true := by kernel_rfl

namespace F61
theorem ok {H : Heap} {b : Nat} {s : BitVec 32} (x : Int) (h : H.get b = .row [.int .u32 (nb s)] true) : Cc 61 [.int .u8 x, .pointer (some ⟨b, 0, none⟩)] H = some (.tuple #[], H.set b (.row [.int .u32 (nb (sealB s x))] true)) := by
  refine call ⟨b, 0, rfl, _, ldc_row h, _, stc_row h, ?_⟩
  rw [sealB_int]
end F61

namespace F62
theorem l0 {bt bk bs : Nat} {key : Int} (h1 : bs ≠ bt) (h2 : bs ≠ bk) : ∀ (m i : Nat) (s : BitVec 32) (H : Heap), i + m = 8 → H.get bt = .row [.func (.func 61) #[] #[.pointer (some ⟨bs, 0, none⟩)]] true → H.get bk = .row [.int .u64 key] true → H.get bs = .row [.int .u32 (nb s)] true →
    ∃ H', L0 (some ⟨bt, 0, none⟩) (some ⟨bk, 0, none⟩) (i : Int) H (.tuple #[], H') ∧ Upd H H' bs (.row [.int .u32 (nb (sealL s ((List.range' i m).map (keyB key))))] true) := by
  intro m
  induction m with
  | zero =>
    intro i s H hi g1 g2 g3
    refine ⟨H, L0_step ?_, ⟨rfl, g3, fun _ _ => rfl⟩⟩
    rw [if_neg (by omega)]
  | succ m ih =>
    intro i s H hi g1 g2 g3
    have u := Upd.set H bs (.row [.int .u32 (nb (sealB s (keyB key i)))] true)
    obtain ⟨H', k1, k2⟩ := ih (i + 1) (sealB s (keyB key i)) (H.set bs (.row [.int .u32 (nb (sealB s (keyB key i)))] true)) (by omega) (by rw [u.off _ h1.symm]; exact g1) (by rw [u.off _ h2.symm]; exact g2) u.at_
    refine ⟨H', L0_step ?_, ?_⟩
    · rw [if_pos (by omega)]
      have e : IntKind.wrap .i64 (8 * (IntKind.wrap .i64 (7 - (i : Int)))) = 8 * (7 - (i : Int)) := by rw [i64 (n := 7 - (i : Int)) (by omega) (by omega), i64 (by omega) (by omega)]
      rw [e]
      refine ⟨bt, 0, rfl, _, ldc_row g1, bk, 0, rfl, _, ldc_row g2, by omega, _, _, _, rfl, goes61, _, F61.ok _ g3, ?_⟩
      rw [i64 (by omega) (by omega)]
      exact_mod_cast k1
    · rw [List.range'_succ, List.map_cons]
      exact u.trans k2
theorem ok {bt bk bs : Nat} {key : Int} {s : BitVec 32} {H : Heap} (h1 : bs ≠ bt) (h2 : bs ≠ bk) (g1 : H.get bt = .row [.func (.func 61) #[] #[.pointer (some ⟨bs, 0, none⟩)]] true) (g2 : H.get bk = .row [.int .u64 key] true) (g3 : H.get bs = .row [.int .u32 (nb s)] true) :
    ∃ H', Cc 62 [.pointer (some ⟨bt, 0, none⟩), .pointer (some ⟨bk, 0, none⟩)] H = some (.tuple #[], H') ∧ Upd H H' bs (.row [.int .u32 (nb (sealL s (kb key)))] true) := by
  obtain ⟨H', k1, k2⟩ := l0 h1 h2 8 0 s H rfl g1 g2 g3
  refine ⟨H', call k1, ?_⟩
  rw [kb, List.range_eq_range']
  exact k2
end F62

namespace F47
theorem l0 {bt bk bs : Nat} {key : Int} (h1 : bs ≠ bt) (h2 : bs ≠ bk) {a : Option Addr} {n k : Nat} {xs : List Int} (hn : n < 4611686018427387904) {G : Heap} (hs : Ints .u8 G a n k xs) (hb : G.next ≤ bs) : ∀ (rest : List Int) (j : Nat) (s : BitVec 32) (H : Heap), xs.drop j = rest → j + rest.length = n → Keep G.next G H →
    H.get bt = .row [.func (.func 61) #[] #[.pointer (some ⟨bs, 0, none⟩)]] true → H.get bk = .row [.int .u64 key] true → H.get bs = .row [.int .u32 (nb s)] true →
    ∃ H', L0 bs 0 bt 0 bt 0 bk 0 a n k (n : Int) (j : Int) H (.int .u32 (nb (sealL (sealL s rest) (kb key))), H') ∧ Keep G.next H H' := by
  intro rest
  induction rest with
  | nil =>
    intro j s H hd hj hp g1 g2 g3
    simp only [List.length_nil] at hj
    obtain ⟨H', k1, k2⟩ := F62.ok h1 h2 g1 g2 g3
    refine ⟨H', L0_step ?_, k2.keep hb⟩
    rw [if_neg (by omega)]
    exact ⟨_, k1, _, ldc_row k2.at_, rfl⟩
  | cons x rest ih =>
    intro j s H hd hj hp g1 g2 g3
    simp only [List.length_cons] at hj
    obtain ⟨b, o, rfl⟩ := hs.at (by omega)
    have hx : xs[j]? = some x := by have := congrArg (·[0]?) hd; simpa using this
    have u := Upd.set H bs (.row [.int .u32 (nb (sealB s x))] true)
    obtain ⟨H', k1, k2⟩ := ih (j + 1) (sealB s x) (H.set bs (.row [.int .u32 (nb (sealB s x))] true)) (by rw [← List.drop_drop, hd]; rfl) (by omega) (hp.trans (u.keep hb)) (by rw [u.off _ h1.symm]; exact g1) (by rw [u.off _ h2.symm]; exact g2) u.at_
    refine ⟨H', L0_step ?_, (u.keep hb).trans k2⟩
    rw [if_pos (by omega)]
    refine ⟨b, o, rfl, by omega, by omega, x, by rw [Int.toNat_natCast]; exact Ints.get1 (hs.keep hp) hx, _, ldc_row g1, _, _, _, rfl, goes61, _, F61.ok _ g3, ?_⟩
    rw [i64 (by omega) (by omega)]
    exact_mod_cast k1
theorem ok (key : Int) {a : Option Addr} {n k : Nat} {xs : List Int} {H : Heap} (hs : Ints .u8 H a n k xs) (hn : n < 4611686018427387904) : ∃ H', Cc 47 [.int .u64 key, .slice a n k] H = some (.int .u32 (nb (tagB key xs)), H') ∧ Keep H.next H H' := by
  generalize e1 : H.push (.row [.int .u64 key] true) = H1
  have p1 : Keep H.next H H1 := by rw [← e1]; exact Keep.push _ (Nat.le_refl _)
  have n1 : H1.next = H.next + 1 := by rw [← e1]; rfl
  have a1 : H1.get H.next = .row [.int .u64 key] true := by rw [← e1]; simp
  generalize e2 : H1.push (.row [.int .u32 0] true) = H2
  have p2 : Keep H1.next H1 H2 := by rw [← e2]; exact Keep.push _ (Nat.le_refl _)
  have n2 : H2.next = H1.next + 1 := by rw [← e2]; rfl
  have a2 : H2.get H1.next = .row [.int .u32 0] true := by rw [← e2]; simp
  have u3 := Upd.set H2 H1.next (.row [.int .u32 (nb 2166136261#32)] true)
  generalize e3 : H2.set H1.next (.row [.int .u32 (nb 2166136261#32)] true) = H3 at u3
  generalize e4 : H3.push (.row [.nilFunc] true) = H4
  have p4 : Keep H3.next H3 H4 := by rw [← e4]; exact Keep.push _ (Nat.le_refl _)
  have a4 : H4.get H3.next = .row [.nilFunc] true := by rw [← e4]; simp
  have u5 := Upd.set H4 H3.next (.row [.func (.func 61) #[] #[.pointer (some ⟨H1.next, 0, none⟩)]] true)
  generalize e5 : H4.set H3.next (.row [.func (.func 61) #[] #[.pointer (some ⟨H1.next, 0, none⟩)]] true) = H5 at u5
  have n3 : H3.next = H.next + 2 := by rw [u3.next, n2, n1]
  have b2 : H5.get H.next = .row [.int .u64 key] true := by rw [u5.off _ (by omega), p4.get _ (by omega), u3.off _ (by omega), p2.get _ (by omega), a1]
  have b3 : H5.get H1.next = .row [.int .u32 (nb 2166136261#32)] true := by rw [u5.off _ (by omega), p4.get _ (by omega), u3.at_]
  obtain ⟨H6, c6, u6⟩ := F62.ok (bs := H1.next) (bt := H3.next) (bk := H.next) (by omega) (by omega) u5.at_ b2 b3
  have q5 : Keep H.next H H5 := p1.trans ((p2.weak (by omega)).trans ((u3.keep (by omega)).trans ((p4.weak (by omega)).trans (u5.keep (by omega)))))
  have q6 := q5.trans (u6.keep (base := H.next) (by omega))
  obtain ⟨H7, c7, k7⟩ := l0 (bs := H1.next) (bt := H3.next) (bk := H.next) (key := key) (by omega) (by omega) hn hs (by omega) xs 0 _ H6 (by simp) (by have := hs.ln; omega) q6 (by rw [u6.off _ (by omega)]; exact u5.at_) (by rw [u6.off _ (by omega)]; exact b2) u6.at_
  refine ⟨H7, call ⟨_, e1.symm, _, e2.symm, H3, ?_, _, e4.symm, H5, ?_, _, c6, c7⟩, q6.trans k7⟩
  · rw [stc_row a2]; exact congrArg some e3
  · rw [stc_row a4]; exact congrArg some e5
end F47
namespace F56
theorem ok (key : Int) {a : Option Addr} {n k : Nat} {xs : List Int} {H : Heap} (t : Int) (hs : Ints .u8 H a n k xs) (hn : n < 4611686018427387904) : ∃ H', Cc 56 [.int .u64 key, .slice a n k, .int .u32 t] H = some (.bool (nb (tagB key xs) == t), H') ∧ Keep H.next H H' := by
  obtain ⟨H', c, p⟩ := F47.ok key hs hn
  exact ⟨H', call ⟨_, _, c, rfl⟩, p⟩
end F56
namespace F32
theorem ls0 (key : Int) {base : Nat} : ∀ (m j : Nat) (H : Heap) (a : Option Addr) (k : Nat), j + m = 8 → base ≤ H.next → Own base H 1 a j k (((List.range j).map (keyB key)).map (Value.int .u8)) →
    ∃ a' k' H', L0 key a j k ((m : Int) - 1) H (.slice a' 8 k', H') ∧ Own base H' 1 a' 8 k' ((kb key).map (Value.int .u8)) ∧ Keep base H H' := by
  intro m
  induction m with
  | zero =>
    intro j H a k hj hb ho
    have : j = 8 := by omega
    subst this
    refine ⟨a, k, H, L0_step ?_, ho, Keep.refl _ _⟩
    rw [if_neg (by omega)]
  | succ m ih =>
    intro j H a k hj hb ho
    have q := Keep.push (H := H) (.row [.int .u8 (keyB key j)] true) (Nat.le_refl H.next)
    have on := (Own.new (H := H) (z := 1) (n := 1) (vs := [.int .u8 (keyB key j)]) rfl).sl
    obtain ⟨a1, k1, H1, d1, o1, p1⟩ := (ho.keep q).append (by_ := 1) on (by decide) (Nat.le_trans hb q.next) (by omega) (by omega)
    have o1 : Own base H1 1 a1 (j + 1) k1 (((List.range (j + 1)).map (keyB key)).map (Value.int .u8)) := by
      rw [List.range_succ]; simpa using o1
    obtain ⟨a2, k2, H2, c2, o2, p2⟩ := ih (j + 1) H1 a1 k1 (by omega) (Nat.le_trans hb (Nat.le_trans q.next p1.next)) o1
    refine ⟨a2, k2, H2, L0_step ?_, o2, (q.weak hb).trans (p1.trans p2)⟩
    have e : IntKind.wrap .u64 (IntKind.wrap .i64 (8 * (((m + 1 : Nat) : Int) - 1))) = 8 * (7 - (j : Int)) := by
      rw [i64 (by omega) (by omega), IntWalk.u64_in _ (by omega)]; omega
    rw [if_pos (by omega), e, i64 (by omega) (by omega)]
    refine ⟨by omega, _, rfl, _, _, _, _, d1, ?_⟩
    rw [show ((m + 1 : Nat) : Int) - 1 - 1 = (m : Int) - 1 by omega]
    exact c2
theorem oks (key : Int) (H : Heap) : ∃ a' k' H', Cc 32 [.int .u64 key, .int .i64 8] H = some (.slice a' 8 k', H') ∧ Own H.next H' 1 a' 8 k' ((kb key).map (Value.int .u8)) ∧ Keep H.next H H' := by
  obtain ⟨a', k', H', c, o, p⟩ := ls0 key 8 0 H none 0 rfl (Nat.le_refl _) ⟨rfl, .inl ⟨rfl, rfl, rfl⟩⟩
  exact ⟨a', k', H', call c, o, p⟩
end F32
namespace F49
variable {c0 c1 c2 : Option Addr} {m0 m1 m2 j0 j1 j2 : Nat} {r : Value × Heap}
theorem l1 {a : Option Addr} {n k : Nat} {xs : List Int} {H : Heap} (hn : n < 4611686018427387904) (hs : Ints .u8 H a n k xs) (t : Int) : ∀ (rest : List Int) (j : Nat) (s : BitVec 32), xs.drop j = rest → j + rest.length = n →
    L0 (nb (sealL s rest)) c0 m0 j0 c1 m1 j1 c2 m2 j2 (IntKind.wrap .i64 (t + 1)) H r → L1 (nb s) c0 m0 j0 c1 m1 j1 c2 m2 j2 t a n k (n : Int) (j : Int) H r := by
  intro rest
  induction rest with
  | nil =>
    intro j s hd hj h
    simp only [List.length_nil] at hj
    refine L1_step ?_
    rw [if_neg (by omega)]
    exact h
  | cons x rest ih =>
    intro j s hd hj h
    simp only [List.length_cons] at hj
    obtain ⟨b, o, rfl⟩ := hs.at (by omega)
    have hx : xs[j]? = some x := by have := congrArg (·[0]?) hd; simpa using this
    refine L1_step ?_
    rw [if_pos (by omega)]
    refine ⟨b, o, rfl, by omega, by omega, x, by rw [Int.toNat_natCast]; exact Ints.get1 hs hx, ?_⟩
    rw [sealB_int, i64 (by omega) (by omega)]
    have := ih (j + 1) (sealB s x) (by rw [← List.drop_drop, hd]; rfl) (by omega) h
    exact_mod_cast this
theorem ok (key : Int) {a : Option Addr} {n k : Nat} {xs : List Int} {H : Heap} (hs : Ints .u8 H a n k xs) (hn : n < 4611686018427387904) : ∃ H', Cc 49 [.int .u64 key, .slice a n k] H = some (.int .u32 (nb (tagB key xs)), H') ∧ Keep H.next H H' := by
  obtain ⟨a1, k1, H1, c1, o1, p1⟩ := F32.oks key H
  have hk := o1.sl
  have hb := hs.keep p1
  refine ⟨H1, call ⟨_, _, _, _, c1, ?_⟩, p1⟩
  have z8 : (kb key).length = 8 := by simp [kb]
  refine L0_step ?_
  rw [if_pos (by decide)]
  refine ⟨_, _, _, rfl, ?_⟩
  refine l1 (xs := kb key) (by decide) hk 0 (kb key) 0 2166136261#32 (by simp) (by omega) ?_
  refine L0_step ?_
  rw [if_pos (by decide)]
  refine ⟨_, _, _, rfl, ?_⟩
  refine l1 (xs := xs) hn hb 1 xs 0 _ (by simp) (by have := hs.ln; omega) ?_
  refine L0_step ?_
  rw [if_pos (by decide)]
  refine ⟨_, _, _, rfl, ?_⟩
  refine l1 (xs := kb key) (by decide) hk 2 (kb key) 0 _ (by simp) (by omega) ?_
  refine L0_step ?_
  rw [if_neg (by decide)]
  rfl
end F49

theorem sealB_xor {s t : BitVec 32} {x y : Int} (hx : 0 ≤ x ∧ x < 256) (hy : 0 ≤ y ∧ y < 256) (h : sealB s (ixor .u8 x y) = sealB s x) : y = 0 := by
  have h1 := mul_inj h
  rw [BitVec.xor_comm s, BitVec.xor_comm s] at h1
  have h2 := xor_cancel h1
  have r := ixor8_range x y
  have e : ixor .u8 x y = x := by
    have := congrArg nb h2
    rwa [nb_ofInt r.1 (by have := r.2; omega), nb_ofInt hx.1 (by omega)] at this
  rw [ixor8_eq hx hy] at e
  rw [byte_nb hx.1 hx.2] at e
  rw [byte_nb hy.1 hy.2]
  have e2 := nb_inj e
  rw [ofInt_nb] at e2
  have : BitVec.ofInt 8 y = 0#8 := by
    have := congrArg (BitVec.ofInt 8 x ^^^ ·) e2
    simpa [← BitVec.xor_assoc] using this
  rw [this]; rfl
theorem sealL_set {xs : List Int} {p : Nat} {y : Int} (hp : p < xs.length) (hx : IsB xs) (hy : 0 ≤ y ∧ y < 256) {s : BitVec 32} (h : sealL s (xs.set p (ixor .u8 xs[p] y)) = sealL s xs) : y = 0 := by
  induction xs generalizing p s with
  | nil => simp at hp
  | cons x xs ih =>
    cases p with
    | zero =>
      have := sealL_inj xs (show sealL (sealB s (ixor .u8 x y)) xs = sealL (sealB s x) xs from h)
      exact sealB_xor (t := s) (hx x (by simp)) hy this
    | succ p =>
      have hp' : p < xs.length := by simpa using hp
      exact ih (p := p) hp' (fun z hz => hx z (by simp [hz])) (show sealL (sealB s x) (xs.set p (ixor .u8 xs[p] y)) = sealL (sealB s x) xs from h)
theorem tag_set (key : Int) {xs : List Int} {p : Nat} {y : Int} (hp : p < xs.length) (hx : IsB xs) (hy : 0 ≤ y ∧ y < 256) : (nb (tagB key (xs.set p (ixor .u8 xs[p] y))) == nb (tagB key xs)) = (y == 0) := by
  by_cases h0 : y = 0
  · subst h0
    have e : ixor .u8 xs[p] 0 = xs[p] := by
      have hb := hx xs[p] (List.getElem_mem hp)
      rw [ixor8_eq hb (by omega)]
      have : BitVec.ofInt 8 0 = 0#8 := rfl
      rw [this, BitVec.xor_zero]
      exact (byte_nb hb.1 hb.2).symm
    rw [e, List.set_getElem_self]
    simp
  · have : ¬ nb (tagB key (xs.set p (ixor .u8 xs[p] y))) = nb (tagB key xs) := fun h => h0 (sealL_set hp hx hy (sealL_inj _ (nb_inj h)))
    rw [beq_eq_false_iff_ne.2 this, beq_eq_false_iff_ne.2 h0]
/-- A cell of a slotframe. -/
structure C5 where
  f : Int
  s : Int
  c : Int
  o : Int
  p : Int
  deriving DecidableEq
abbrev C5.cells (c : C5) : List Value := [.int .i64 c.f, .int .i64 c.s, .int .i64 c.c, .int .i64 c.o, .int .i64 c.p]
abbrev C5.agg (c : C5) : Value := .agg #[.int .i64 c.f, .int .i64 c.s, .int .i64 c.c, .int .i64 c.o, .int .i64 c.p]
theorem C5.z (c : C5) : c.cells.length = 5 := rfl
abbrev c50 : C5 := ⟨0, 0, 0, 0, 0⟩
/-- Slices of cells. -/
abbrev Cells (H : Heap) (a : Option Addr) (n k : Nat) (l : List C5) : Prop := Sl H 5 a n k (l.flatMap C5.cells)
def inP (x a b : Int) : Prop := a ≤ x ∧ x ≤ b
instance (x a b : Int) : Decidable (inP x a b) := by unfold inP; infer_instance
def mayC (c : C5) : Prop := inP c.f 0 3 ∧ inP c.s 0 199 ∧ inP c.c 0 15 ∧ inP c.o 1 15 ∧ iand .i64 c.o 3 ≠ 0 ∧ (iand .i64 c.o 4 = 0 ∨ iand .i64 c.o 1 ≠ 0) ∧ (inP c.p 0 15 ∨ c.p = 64)
instance (c : C5) : Decidable (mayC c) := by unfold mayC; infer_instance
theorem mayC_p {c : C5} (c1 : inP c.f 0 3) (c2 : inP c.s 0 199) (c3 : inP c.c 0 15) (c4 : inP c.o 1 15) (c5 : iand .i64 c.o 3 ≠ 0) (c6 : iand .i64 c.o 4 = 0 ∨ iand .i64 c.o 1 ≠ 0) (c7 : ¬inP c.p 0 15) : (c.p == 64) = decide (mayC c) := by
  by_cases h : c.p = 64
  · have hm : mayC c := ⟨c1, c2, c3, c4, c5, c6, .inr h⟩
    rw [decide_eq_true hm]; simp [h]
  · have hm : ¬mayC c := fun m => h (m.2.2.2.2.2.2.resolve_left c7)
    rw [decide_eq_false hm]; simp [h]
theorem mayC_yes {c : C5} (c1 : inP c.f 0 3) (c2 : inP c.s 0 199) (c3 : inP c.c 0 15) (c4 : inP c.o 1 15) (c5 : iand .i64 c.o 3 ≠ 0) (c6 : iand .i64 c.o 4 = 0 ∨ iand .i64 c.o 1 ≠ 0) (c7 : inP c.p 0 15) : true = decide (mayC c) := (decide_eq_true (show mayC c from ⟨c1, c2, c3, c4, c5, c6, .inl c7⟩)).symm
namespace F71
theorem ok (x a b : Int) (H : Heap) : Cc 71 [.int .i64 x, .int .i64 a, .int .i64 b] H = some (.bool (decide (inP x a b)), H) := by
  refine call ?_
  by_cases h : x ≥ a
  · rw [if_pos h, show decide (x ≤ b) = decide (inP x a b) from decide_eq_decide.2 ⟨fun h' => ⟨h, h'⟩, fun h' => h'.2⟩]
  · rw [if_neg h, decide_eq_false fun h' => h h'.1]
end F71
namespace F59
theorem l0 {H : Heap} {b : Nat} {c : C5} (g : H.get b = .row c.cells true) : L0 b 0 (!((iand .i64 c.o 3) == 0)) (if iand .i64 c.o 4 = 0 then false else ((iand .i64 c.o 1) == 0)) H (.bool (decide (mayC c)), H) := by
  refine L0_step ⟨_, rldc' g 0, _, _, F71.ok _ _ _ _, ?_⟩
  by_cases c1 : inP c.f 0 3
  · rw [if_pos (by simpa using c1)]
    refine ⟨_, rldc' g 1, _, _, F71.ok _ _ _ _, ?_⟩
    by_cases c2 : inP c.s 0 199
    · rw [if_pos (by simpa using c2)]
      refine ⟨_, rldc' g 2, _, _, F71.ok _ _ _ _, ?_⟩
      by_cases c3 : inP c.c 0 15
      · rw [if_pos (by simpa using c3)]
        refine ⟨_, rldc' g 3, _, _, F71.ok _ _ _ _, ?_⟩
        by_cases c4 : inP c.o 1 15
        · rw [if_pos (by simpa using c4)]
          by_cases c5 : iand .i64 c.o 3 = 0
          · rw [if_neg (by simp [c5]), decide_eq_false fun m => m.2.2.2.2.1 c5]
          · rw [if_pos (by simp [c5])]
            by_cases c6 : iand .i64 c.o 4 = 0 ∨ iand .i64 c.o 1 ≠ 0
            · rw [if_neg (by
                by_cases h4 : iand .i64 c.o 4 = 0
                · rw [if_pos h4]; simp
                · rw [if_neg h4]; simpa using c6.resolve_left h4)]
              refine ⟨_, rldc' g 4, _, _, F71.ok _ _ _ _, ?_⟩
              by_cases c7 : inP c.p 0 15
              · rw [if_pos (by simpa using c7), mayC_yes c1 c2 c3 c4 c5 c6 c7]
              · rw [if_neg (by simpa using c7)]
                refine ⟨_, rldc' g 4, ?_⟩
                rw [mayC_p c1 c2 c3 c4 c5 c6 c7]
            · rw [if_pos (by
                by_cases h4 : iand .i64 c.o 4 = 0
                · exact absurd (.inl h4) c6
                · rw [if_neg h4]; simpa using fun h => c6 (.inr h)), decide_eq_false fun m => c6 m.2.2.2.2.2.1]
        · rw [if_neg (by simpa using c4), decide_eq_false fun m => c4 m.2.2.2.1]
      · rw [if_neg (by simpa using c3), decide_eq_false fun m => c3 m.2.2.1]
    · rw [if_neg (by simpa using c2), decide_eq_false fun m => c2 m.2.1]
  · rw [if_neg (by simpa using c1), decide_eq_false fun m => c1 m.1]
theorem ok (c : C5) (H : Heap) : ∃ H', Cc 59 [c.agg] H = some (.bool (decide (mayC c)), H') ∧ Keep H.next H H' := by
  obtain ⟨H1, e1, n1, g1, k1⟩ := one H c.cells
  have z := l0 g1
  refine ⟨H1, call ⟨_, e1, _, rldc' g1 3, _, rldc' g1 3, ?_⟩, k1⟩
  by_cases h4 : iand .i64 c.o 4 = 0
  · rw [if_pos h4] at z ⊢; exact z
  · rw [if_neg h4] at z ⊢; exact ⟨_, rldc' g1 3, z⟩
end F59
namespace F33
theorem ok (x : Int) (H : Heap) : Cc 33 [.int .i64 x] H = some (.bool (decide (inP x 0 15)), H) := by
  refine call ?_
  by_cases h : x ≥ 0
  · rw [if_pos h, show decide (x < 16) = decide (inP x 0 15) from decide_eq_decide.2 ⟨fun h' => ⟨h, by omega⟩, fun h' => by have := h'.2; omega⟩]
  · rw [if_neg h, decide_eq_false fun h' => h h'.1]
end F33
namespace F39
theorem ok (c : C5) (H : Heap) : ∃ H', Cc 39 [c.agg] H = some (.bool (decide (mayC c)), H') ∧ Keep H.next H H' := by
  obtain ⟨H1, e1, n1, g1, k1⟩ := one H c.cells
  refine ⟨H1, call ⟨_, e1, _, rldc' g1 0, ?_⟩, k1⟩
  have fin : ∀ (c1 : inP c.f 0 3) (c2 : inP c.s 0 199) (c3 : inP c.c 0 15) (c4 : inP c.o 1 15) (c5 : iand .i64 c.o 3 ≠ 0) (c6 : iand .i64 c.o 4 = 0 ∨ iand .i64 c.o 1 ≠ 0), ∃ (t61 : Int), ldc H1 H.next 4 = some (.int .i64 t61) ∧ ∃ (t62 : Bool) (H_2 : Heap), Cc 33 [.int .i64 t61] H1 = some (.bool t62, H_2) ∧
      if t62 = true then ((Value.bool (decide (mayC c)), H1) : Value × Heap) = (.bool true, H_2) else ∃ (t65 : Int), ldc H_2 H.next 4 = some (.int .i64 t65) ∧ ((Value.bool (decide (mayC c)), H1) : Value × Heap) = (.bool (t65 == 64), H_2) := by
    intro c1 c2 c3 c4 c5 c6
    refine ⟨_, rldc' g1 4, _, _, F33.ok _ _, ?_⟩
    by_cases c7 : inP c.p 0 15
    · rw [if_pos (by simpa using c7), mayC_yes c1 c2 c3 c4 c5 c6 c7]
    · rw [if_neg (by simpa using c7)]
      refine ⟨_, rldc' g1 4, ?_⟩
      rw [mayC_p c1 c2 c3 c4 c5 c6 c7]
  by_cases d1 : c.f ≥ 0
  · rw [if_pos d1]
    refine ⟨_, rldc' g1 0, ?_⟩
    by_cases d2 : c.f < 4
    · rw [if_pos d2]
      refine ⟨_, rldc' g1 1, ?_⟩
      by_cases d3 : c.s ≥ 0
      · rw [if_pos d3]
        refine ⟨_, rldc' g1 1, ?_⟩
        by_cases d4 : c.s < 200
        · rw [if_pos d4]
          refine ⟨_, rldc' g1 2, ?_⟩
          by_cases d5 : c.c ≥ 0
          · rw [if_pos d5]
            refine ⟨_, rldc' g1 2, ?_⟩
            by_cases d6 : c.c ≤ 15
            · rw [if_pos d6]
              refine ⟨_, rldc' g1 3, ?_⟩
              by_cases d7 : c.o ≥ 1
              · rw [if_pos d7]
                refine ⟨_, rldc' g1 3, ?_⟩
                by_cases d8 : c.o ≤ 15
                · rw [if_pos d8]
                  refine ⟨_, rldc' g1 3, ?_⟩
                  by_cases d9 : iand .i64 c.o 3 = 0
                  · rw [if_pos d9, decide_eq_false fun m => m.2.2.2.2.1 d9]
                  · rw [if_neg d9]
                    refine ⟨_, rldc' g1 3, ?_⟩
                    by_cases e4 : iand .i64 c.o 4 = 0
                    · rw [if_pos e4]
                      exact fin ⟨d1, by omega⟩ ⟨d3, by omega⟩ ⟨d5, d6⟩ ⟨d7, d8⟩ d9 (.inl e4)
                    · rw [if_neg e4]
                      refine ⟨_, rldc' g1 3, ?_⟩
                      by_cases e1 : iand .i64 c.o 1 = 0
                      · rw [if_pos e1, decide_eq_false fun m => by rcases m.2.2.2.2.2.1 with h | h; exact e4 h; exact h e1]
                      · rw [if_neg e1]
                        exact fin ⟨d1, by omega⟩ ⟨d3, by omega⟩ ⟨d5, d6⟩ ⟨d7, d8⟩ d9 (.inr e1)
                · rw [if_neg d8, decide_eq_false fun m => d8 m.2.2.2.1.2]
              · rw [if_neg d7, decide_eq_false fun m => d7 m.2.2.2.1.1]
            · rw [if_neg d6, decide_eq_false fun m => d6 m.2.2.1.2]
          · rw [if_neg d5, decide_eq_false fun m => d5 m.2.2.1.1]
        · rw [if_neg d4, decide_eq_false fun m => by have := m.2.1.2; omega]
      · rw [if_neg d3, decide_eq_false fun m => d3 m.2.1.1]
    · rw [if_neg d2, decide_eq_false fun m => by have := m.1.2; omega]
  · rw [if_neg d1, decide_eq_false fun m => d1 m.1.1]
end F39
theorem goes58 : fnGoes Try.prog 58 = true := by kernel_rfl
namespace F58
theorem ok (c : C5) (H : Heap) : ∃ H', Cc 58 [c.agg] H = some (.bool (!decide (mayC c)), H') ∧ Keep H.next H H' := by
  obtain ⟨H1, e1, n1, g1, k1⟩ := one H c.cells
  obtain ⟨H2, c2, k2⟩ := F59.ok c H1
  exact ⟨H2, call ⟨_, e1, _, _, _, _, _, rldAll g1, _, _, c2, rfl⟩, k1.trans (k2.weak (by omega))⟩
end F58
namespace F45
theorem ok {H : Heap} {a : Option Addr} {n k : Nat} {l : List C5} (hs : Cells H a n k l) (hn : n ≤ 1000000000) : ∃ a' k' H', Cc 45 [.slice a n k] H = some (.slice a' n k', H') ∧ Own H.next H' 5 a' n k' (l.flatMap C5.cells) ∧ Keep H.next H H' := by
  by_cases h0 : a.isNone = true
  · have : a = none := by simpa using h0
    subst this
    obtain ⟨hl, ⟨_, rfl, rfl⟩ | ⟨h, _⟩ | ⟨b, o, h, _⟩⟩ := hs
    · exact ⟨none, 0, H, call ((if_pos h0).mpr rfl), ⟨hl, .inl ⟨rfl, rfl, rfl⟩⟩, Keep.refl _ _⟩
    · cases h
    · cases h
  · have e : Own H.next (H.push (.row [] true)) 5 (some ⟨H.next, 0, none⟩) 0 (UNK 5) [] := Own.new rfl
    have hk := Keep.push (H := H) (.row [] true) (Nat.le_refl H.next)
    obtain ⟨a', k', H', h1, h2, h3⟩ := Own.append (by_ := 40) e (hs.keep hk) (by decide) (by simp) (by omega) (by omega)
    simp only [Nat.zero_add, List.nil_append] at h1 h2
    refine ⟨a', k', H', call ?_, h2, hk.trans h3⟩
    rw [if_neg h0]
    exact ⟨_, rfl, _, _, _, _, h1, rfl⟩
end F45
/-- Where the first one is that may not be, or -1. -/
def bad1 : List C5 → Int
  | [] => -1
  | c :: l => if mayC c then (if bad1 l < 0 then -1 else bad1 l + 1) else 0
theorem bad1_le : ∀ l : List C5, -1 ≤ bad1 l ∧ bad1 l < l.length
  | [] => by simp [bad1]
  | c :: l => by
    have := bad1_le l
    unfold bad1
    simp only [List.length_cons]
    split
    · split <;> omega
    · omega
theorem bad1_all : ∀ l : List C5, bad1 l < 0 ↔ ∀ c ∈ l, mayC c
  | [] => by simp [bad1]
  | c :: l => by
    have h := bad1_all l
    have hl := bad1_le l
    unfold bad1
    by_cases e : mayC c
    · rw [if_pos e]
      by_cases e2 : bad1 l < 0
      · rw [if_pos e2]
        exact ⟨fun _ x hx => by rcases List.mem_cons.1 hx with rfl | hx; exact e; exact h.1 e2 x hx, fun _ => by omega⟩
      · rw [if_neg e2]
        exact ⟨fun c => by omega, fun c => absurd (h.2 fun x hx => c x (List.mem_cons_of_mem _ hx)) e2⟩
    · rw [if_neg e]
      exact ⟨fun c => by omega, fun x => absurd (x c (List.mem_cons_self ..)) e⟩
namespace F70
theorem l0 {G : Heap} {a : Option Addr} {n k : Nat} {l : List C5} (hs : Cells G a n k l) (hn : n ≤ 1000000000) : ∀ (rest : List C5) (j : Nat) (H : Heap), l.drop j = rest → j + rest.length = n → Keep G.next G H → ∃ H', L0 a n k (.func (.func 58) #[] #[]) (n : Int) (j : Int) H (.int .i64 (if bad1 rest < 0 then -1 else j + bad1 rest), H') ∧ Keep G.next H H' := by
  intro rest
  induction rest with
  | nil =>
    intro j H hd hj hk
    simp only [List.length_nil] at hj
    refine ⟨H, L0_step ?_, Keep.refl _ _⟩
    rw [if_neg (by omega)]
    rfl
  | cons c rest ih =>
    intro j H hd hj hk
    simp only [List.length_cons] at hj
    obtain ⟨b, o, rfl⟩ := hs.at (by omega)
    have hx := drop_get hd
    have ra := (hs.keep hk).recs C5.z hx
    obtain ⟨H1, c1, k1⟩ := F58.ok c H
    have k1' := k1.weak hk.next
    have hbl := bad1_le rest
    by_cases e : mayC c
    · obtain ⟨H', z, k'⟩ := ih (j + 1) H1 (drop_next hd) (by omega) (hk.trans k1')
      refine ⟨H', L0_step ?_, k1'.trans k'⟩
      rw [if_pos (by omega)]
      refine ⟨b, o, rfl, by omega, by omega, _, _, _, _, _, ra, 58, #[], #[], rfl, goes58, _, H1, by simpa using c1, ?_⟩
      rw [if_neg (by simpa using e), i64 (by omega) (by omega)]
      have : (if bad1 (c :: rest) < 0 then (-1 : Int) else j + bad1 (c :: rest)) = if bad1 rest < 0 then -1 else ((j + 1 : Nat) : Int) + bad1 rest := by
        have e1 : bad1 (c :: rest) = if bad1 rest < 0 then -1 else bad1 rest + 1 := by conv => lhs; unfold bad1; rw [if_pos e]
        rw [e1]
        by_cases h : bad1 rest < 0
        · rw [if_pos h, if_pos h, if_pos (by omega)]
        · rw [if_neg h, if_neg h, if_neg (by omega)]; omega
      rw [this]
      exact_mod_cast z
    · refine ⟨H1, L0_step ?_, k1'⟩
      rw [if_pos (by omega)]
      refine ⟨b, o, rfl, by omega, by omega, _, _, _, _, _, ra, 58, #[], #[], rfl, goes58, _, H1, by simpa using c1, ?_⟩
      rw [if_pos (by simpa using e)]
      have e1 : bad1 (c :: rest) = 0 := by unfold bad1; rw [if_neg e]
      rw [e1, if_neg (by omega), Int.add_zero]
theorem ok {H : Heap} {a : Option Addr} {n k : Nat} {l : List C5} (hs : Cells H a n k l) (hn : n ≤ 1000000000) : ∃ H', Cc 70 [.slice a n k, .func (.func 58) #[] #[]] H = some (.int .i64 (bad1 l), H') ∧ Keep H.next H H' := by
  have hl := hs.cnt C5.z (by decide)
  obtain ⟨H', z, k'⟩ := l0 hs hn l 0 H rfl (by omega) (Keep.refl _ _)
  have h2 := bad1_le l
  have e : (if bad1 l < 0 then (-1 : Int) else ((0 : Nat) : Int) + bad1 l) = bad1 l := by split <;> omega
  rw [e] at z
  exact ⟨H', call z, k'⟩
end F70
/-- A writer of whole bytes, above a base. -/
def WB (base : Nat) (H : Heap) (p : Nat) (xs : List Int) : Prop := base ≤ p ∧ base ≤ H.next ∧ ∃ a n k, WR H p (tbits xs) a n k ∧ ∀ b, In1 a b → base ≤ b
section
variable {base : Nat} {H : Heap} {p : Nat} {xs : List Int}
theorem WB.putN (h : WB base H p xs) {ys : List Int} {w : Nat} {v : BitVec 64} {y : Int} (hy : y = nb v) (hw : w ≤ 64) (he : tbits ys = bitsN v w) (hl : xs.length ≤ 1000) : ∃ H', Cc 46 [.pointer (some ⟨p, 0, none⟩), .int .u64 y, .int .i64 (w : Int)] H = some (.tuple #[], H') ∧ WB base H' p (xs ++ ys) ∧ Keep base H H' := by
  obtain ⟨hp, hn, a, n, k, h, ha⟩ := h
  obtain ⟨a', n', k', H', c, w', f⟩ := F46.ok (v := v) h hw (by rw [tbits_len]; omega)
  have g : Keep base H H' := f.chg.keep hn fun b hb h => by rcases h with h | h; omega; exact ha b h
  refine ⟨H', by rw [hy]; exact c, ⟨hp, Nat.le_trans hn g.next, a', n', k', by rw [tbits_append, he]; exact w', fun b hb => ?_⟩, g⟩
  rcases f.arr b hb with h | h
  · exact ha b h
  · omega
theorem WB.put8 (h : WB base H p xs) {x y : Int} (hy : y = IntKind.wrap .u64 x) (hl : xs.length ≤ 1000) : ∃ H', Cc 46 [.pointer (some ⟨p, 0, none⟩), .int .u64 y, .int .i64 8] H = some (.tuple #[], H') ∧ WB base H' p (xs ++ [x]) ∧ Keep base H H' :=
  h.putN (ys := [x]) (w := 8) (v := BitVec.ofInt 64 x) (by rw [hy, nb_wrap]) (by omega) (tbits_one x) hl
theorem WB.put32 (h : WB base H p xs) (x : Int) (hl : xs.length ≤ 1000) : ∃ H', Cc 46 [.pointer (some ⟨p, 0, none⟩), .int .u64 (IntKind.wrap .u64 x), .int .i64 32] H = some (.tuple #[], H') ∧ WB base H' p (xs ++ beB x 4) ∧ Keep base H H' :=
  h.putN (ys := beB x 4) (w := 32) (v := BitVec.ofInt 64 x) (nb_wrap x) (by omega) (tbits_beB x 4) hl
theorem WB.new (h : WB base H p xs) {H' : Heap} (k : Keep H.next H H') : WB base H' p xs := by
  obtain ⟨hp, hn, a, n, c, h, ha⟩ := h
  exact ⟨hp, Nat.le_trans hn k.next, a, n, c, h.new k, ha⟩
theorem WB.bytes (h : WB base H p xs) (hb : IsB xs) (hl : xs.length ≤ 1000) : ∃ a' k' H', Cc 48 [.pointer (some ⟨p, 0, none⟩)] H = some (.slice a' xs.length k', H') ∧ OwnI .u8 H.next H' a' xs.length k' xs ∧ Keep H.next H H' := by
  obtain ⟨hp, hn, a, n, k, h, ha⟩ := h
  have := F48.ok h (by rw [tbits_len]; omega)
  rw [pack_tbits hb] at this
  exact this
end
/-- A request's value. -/
structure RQ where
  n : Int
  p : Int
  a : Int
  c : Int
  t : Int
  deriving DecidableEq
abbrev RQ.cells (v : RQ) : List Value := [.int .i64 v.n, .int .i64 v.p, .int .u32 v.a, .int .u32 v.c, .int .u32 v.t]
abbrev RQ.agg (v : RQ) : Value := .agg #[.int .i64 v.n, .int .i64 v.p, .int .u32 v.a, .int .u32 v.c, .int .u32 v.t]
def rq0 : RQ := ⟨0, 0, 0, 0, 0⟩
def mayR (v : RQ) : Prop := inP v.n 0 15 ∧ inP v.p 0 15 ∧ v.n ≠ v.p
instance (v : RQ) : Decidable (mayR v) := by unfold mayR; infer_instance
def encR (v : RQ) : List Int := [74, v.n, v.p] ++ beB v.a 4 ++ beB v.c 4
/-- A grant's value. -/
structure GV where
  n : Int
  d : Int
  a : Int
  l : List C5
  t : Int
  deriving DecidableEq
/-- .. in memory. -/
structure Gr where
  v : GV
  sa : Option Addr
  sk : Nat
abbrev Gr.cells (g : Gr) : List Value := [.int .i64 g.v.n, .int .i64 g.v.d, .int .u32 g.v.a, .slice g.sa g.v.l.length g.sk, .int .u32 g.v.t]
abbrev Gr.agg (g : Gr) : Value := .agg #[.int .i64 g.v.n, .int .i64 g.v.d, .int .u32 g.v.a, .slice g.sa g.v.l.length g.sk, .int .u32 g.v.t]
structure GrOk (H : Heap) (g : Gr) : Prop where
  l : Cells H g.sa g.v.l.length g.sk g.v.l
  s : g.v.l.length ≤ 1000000000
theorem GrOk.keep {H H' : Heap} {g : Gr} (h : GrOk H g) (k : Keep H.next H H') : GrOk H' g := ⟨h.l.keep k, h.s⟩
def gv0 : GV := ⟨0, 0, 0, [], 0⟩
def gr0 : Gr := ⟨gv0, none, 0⟩
theorem gr0_ok (H : Heap) : GrOk H gr0 := ⟨⟨rfl, .inl ⟨rfl, rfl, rfl⟩⟩, by simp [gr0, gv0]⟩
def cellB (c : C5) : List Int := [c.f, c.s, c.c, c.o, c.p]
def cellsP (l : List C5) : Prop := l.length ≤ 8 ∧ ∀ c ∈ l, mayC c
instance (l : List C5) : Decidable (cellsP l) := by unfold cellsP; infer_instance
def mayG (v : GV) : Prop := inP v.n 0 15 ∧ inP v.d 0 255 ∧ cellsP v.l
instance (v : GV) : Decidable (mayG v) := by unfold mayG; infer_instance
def encG (v : GV) : List Int := [71, v.n, v.d] ++ beB v.a 4 ++ [(v.l.length : Int)] ++ v.l.flatMap cellB
def sealed (key : Int) (xs : List Int) : List Int := xs ++ beB (nb (tagB key xs)) 4
theorem inP_byte {x : Int} (h : inP x 0 15) : 0 ≤ x ∧ x < 256 := ⟨h.1, by have := h.2; omega⟩
theorem mayC_bytes {c : C5} (h : mayC c) : IsB (cellB c) := by
  obtain ⟨h1, h2, h3, h4, _, _, h7⟩ := h
  intro x hx
  simp only [cellB, List.mem_cons, List.not_mem_nil, or_false] at hx
  obtain ⟨a1, a2⟩ := h1; obtain ⟨b1, b2⟩ := h2; obtain ⟨c1, c2⟩ := h3; obtain ⟨d1, d2⟩ := h4
  rcases hx with rfl | rfl | rfl | rfl | rfl
  · omega
  · omega
  · omega
  · omega
  · rcases h7 with ⟨e1, e2⟩ | e <;> omega
theorem encR_isB {v : RQ} (h : mayR v) : IsB (encR v) :=
  isB_app (isB_app (isB_cons (by decide) (isB_cons (inP_byte h.1) (isB_cons (inP_byte h.2.1) isB_nil))) (beB_isB _ _)) (beB_isB _ _)
theorem encR_len (v : RQ) : (encR v).length = 11 := by unfold encR; simp [beB_len]
theorem cellB_len (l : List C5) : (l.flatMap cellB).length = 5 * l.length := by
  induction l with
  | nil => rfl
  | cons c l ih => rw [List.flatMap_cons, List.length_append, ih, List.length_cons]; simp [cellB]; omega
theorem encG_len (v : GV) : (encG v).length = 8 + 5 * v.l.length := by
  unfold encG
  rw [List.length_append, cellB_len]
  simp [beB_len]
theorem encG_isB {v : GV} (h : mayG v) : IsB (encG v) := by
  have h8 := h.2.2.1
  refine isB_app (isB_app (isB_app (isB_cons (by decide) (isB_cons (inP_byte h.1) (isB_cons ⟨h.2.1.1, by have := h.2.1.2; omega⟩ isB_nil))) (beB_isB _ _)) (isB_cons (by omega) isB_nil)) ?_
  intro x hx
  obtain ⟨c, hc, hx⟩ := List.mem_flatMap.1 hx
  exact mayC_bytes (h.2.2.2 c hc) x hx
theorem sealed_isB {key : Int} {xs : List Int} (h : IsB xs) : IsB (sealed key xs) := isB_app h (beB_isB _ _)
theorem sealed_len (key : Int) (xs : List Int) : (sealed key xs).length = xs.length + 4 := by unfold sealed; rw [List.length_append, beB_len]
namespace F42
theorem ok (x : Int) (H : Heap) : Cc 42 [.int .i64 x] H = some (.bool (decide (inP x 0 15)), H) := by
  refine call ?_
  by_cases h : x ≥ 0
  · rw [if_pos h, show decide (x < 16) = decide (inP x 0 15) from decide_eq_decide.2 ⟨fun h' => ⟨h, by omega⟩, fun h' => by have := h'.2; omega⟩]
  · rw [if_neg h, decide_eq_false fun h' => h h'.1]
end F42
namespace F92
theorem ok (v : RQ) (H : Heap) : ∃ H', Cc 92 [v.agg] H = some (.bool (decide (mayR v)), H') ∧ Keep H.next H H' := by
  obtain ⟨H1, e1, n1, g1, k1⟩ := one H v.cells
  refine ⟨H1, call ⟨_, e1, _, rldc' g1 0, _, _, F42.ok _ _, ?_⟩, k1⟩
  by_cases c1 : inP v.n 0 15
  · rw [if_pos (by simpa using c1)]
    refine ⟨_, rldc' g1 1, _, _, F42.ok _ _, ?_⟩
    by_cases c2 : inP v.p 0 15
    · rw [if_pos (by simpa using c2)]
      refine ⟨_, rldc' g1 0, _, rldc' g1 1, ?_⟩
      by_cases c3 : v.n = v.p
      · rw [decide_eq_false fun m => m.2.2 c3, c3]; simp
      · rw [decide_eq_true (show mayR v from ⟨c1, c2, c3⟩), beq_eq_false_iff_ne.2 c3]; rfl
    · rw [if_neg (by simpa using c2), decide_eq_false fun m => c2 m.2.1]
  · rw [if_neg (by simpa using c1), decide_eq_false fun m => c1 m.1]
end F92
namespace F29
theorem ok (v : RQ) (H : Heap) : ∃ H', Cc 29 [v.agg] H = some (.bool (decide (mayR v)), H') ∧ Keep H.next H H' := by
  obtain ⟨H1, e1, n1, g1, k1⟩ := one H v.cells
  refine ⟨H1, call ⟨_, e1, _, rldc' g1 0, _, _, F33.ok _ _, ?_⟩, k1⟩
  by_cases c1 : inP v.n 0 15
  · rw [if_pos (by simpa using c1)]
    refine ⟨_, rldc' g1 1, _, _, F33.ok _ _, ?_⟩
    by_cases c2 : inP v.p 0 15
    · rw [if_pos (by simpa using c2)]
      refine ⟨_, rldc' g1 1, _, rldc' g1 0, ?_⟩
      by_cases c3 : v.n = v.p
      · rw [decide_eq_false fun m => m.2.2 c3, c3]; simp
      · rw [decide_eq_true (show mayR v from ⟨c1, c2, c3⟩), beq_eq_false_iff_ne.2 (Ne.symm c3)]; rfl
    · rw [if_neg (by simpa using c2), decide_eq_false fun m => c2 m.2.1]
  · rw [if_neg (by simpa using c1), decide_eq_false fun m => c1 m.1]
end F29
/-- .. and apart from a row. -/
def WM (base m : Nat) (H : Heap) (p : Nat) (xs : List Int) : Prop := base ≤ p ∧ p ≠ m ∧ m < H.next ∧ base ≤ H.next ∧ ∃ a n k, WR H p (tbits xs) a n k ∧ ∀ b, In1 a b → base ≤ b ∧ b ≠ m
section
variable {base m : Nat} {H : Heap} {p : Nat} {xs : List Int}
theorem WB.row (h : WB base H p xs) {H' : Heap} (k : Keep H.next H H') (hm : H'.next = H.next + 1) : WM base H.next H' p xs := by
  obtain ⟨hp, hn, a, n, c, h, ha⟩ := h
  have := h.lt
  exact ⟨hp, by omega, by omega, by omega, a, n, c, h.new k, fun b hb => ⟨ha b hb, by have := (h.own.lt hb).2; omega⟩⟩
theorem WM.wb (h : WM base m H p xs) : WB base H p xs := by
  obtain ⟨hp, _, _, hn, a, n, k, h, ha⟩ := h
  exact ⟨hp, hn, a, n, k, h, fun b hb => (ha b hb).1⟩
theorem WM.new (h : WM base m H p xs) {H' : Heap} (k : Keep H.next H H') : WM base m H' p xs := by
  obtain ⟨hp, hpm, hm, hn, a, n, c, h, ha⟩ := h
  have := k.next
  exact ⟨hp, hpm, by omega, by omega, a, n, c, h.new k, ha⟩
theorem WM.putN (h : WM base m H p xs) {ys : List Int} {w : Nat} {v : BitVec 64} {y : Int} (hy : y = nb v) (hw : w ≤ 64) (he : tbits ys = bitsN v w) (hl : xs.length ≤ 1000) : ∃ H', Cc 46 [.pointer (some ⟨p, 0, none⟩), .int .u64 y, .int .i64 (w : Int)] H = some (.tuple #[], H') ∧ WM base m H' p (xs ++ ys) ∧ Keep base H H' ∧ H'.get m = H.get m := by
  obtain ⟨hp, hpm, hm, hn, a, n, k, h, ha⟩ := h
  obtain ⟨a', n', k', H', c, w', f⟩ := F46.ok (v := v) h hw (by rw [tbits_len]; omega)
  have g : Keep base H H' := f.chg.keep hn fun b hb h => by rcases h with h | h; omega; exact (ha b h).1
  have gn := g.next
  refine ⟨H', by rw [hy]; exact c, ⟨hp, hpm, by omega, by omega, a', n', k', by rw [tbits_append, he]; exact w', fun b hb => ?_⟩, g, f.chg.get m hm fun h => by rcases h with h | h; exact hpm h.symm; exact (ha m h).2 rfl⟩
  rcases f.arr b hb with h | h
  · exact ha b h
  · exact ⟨by omega, by omega⟩
theorem WM.put8 (h : WM base m H p xs) {x y : Int} (hy : y = IntKind.wrap .u64 x) (hl : xs.length ≤ 1000) : ∃ H', Cc 46 [.pointer (some ⟨p, 0, none⟩), .int .u64 y, .int .i64 8] H = some (.tuple #[], H') ∧ WM base m H' p (xs ++ [x]) ∧ Keep base H H' ∧ H'.get m = H.get m :=
  h.putN (ys := [x]) (w := 8) (v := BitVec.ofInt 64 x) (by rw [hy, nb_wrap]) (by omega) (tbits_one x) hl
theorem WM.put32 (h : WM base m H p xs) (x : Int) (hl : xs.length ≤ 1000) : ∃ H', Cc 46 [.pointer (some ⟨p, 0, none⟩), .int .u64 (IntKind.wrap .u64 x), .int .i64 32] H = some (.tuple #[], H') ∧ WM base m H' p (xs ++ beB x 4) ∧ Keep base H H' ∧ H'.get m = H.get m :=
  h.putN (ys := beB x 4) (w := 32) (v := BitVec.ofInt 64 x) (nb_wrap x) (by omega) (tbits_beB x 4) hl
end
namespace F93
theorem ok (v : RQ) {base : Nat} {H : Heap} {p : Nat} (h : WB base H p []) : ∃ H', Cc 93 [v.agg, .pointer (some ⟨p, 0, none⟩)] H = some (.tuple #[], H') ∧ WB base H' p (encR v) ∧ Keep base H H' := by
  obtain ⟨H1, e1, n1, g1, k1⟩ := one H v.cells
  have w1 := h.row k1 n1
  obtain ⟨H2, c2, w2, f2, g2⟩ := w1.put8 (x := 74) (y := 74) rfl (by simp)
  rw [g1] at g2
  obtain ⟨H3, c3, w3, f3, g3⟩ := w2.put8 (x := v.n) rfl (by simp)
  rw [g2] at g3
  obtain ⟨H4, c4, w4, f4, g4⟩ := w3.put8 (x := v.p) rfl (by simp)
  rw [g3] at g4
  obtain ⟨H5, c5, w5, f5, g5⟩ := w4.put32 v.a (by simp)
  rw [g4] at g5
  obtain ⟨H6, c6, w6, f6, g6⟩ := w5.put32 v.c (by simp [beB_len])
  exact ⟨H6, call ⟨_, e1, H2, c2, _, rldc' g2 0, H3, c3, _, rldc' g3 1, H4, c4, _, rldc' g4 2, H5, c5, _, rldc' g5 3, H6, c6, rfl⟩, w6.wb, ((((k1.weak h.2.1).trans f2).trans f3).trans f4).trans (f5.trans f6)⟩
end F93
namespace F57
theorem ok {H : Heap} {a : Option Addr} {n k : Nat} {l : List C5} (hs : Cells H a n k l) (hn : n ≤ 1000000000) : ∃ H', Cc 57 [.slice a n k, .func (.func 58) #[] #[]] H = some (.bool (decide (¬∀ c ∈ l, mayC c)), H') ∧ Keep H.next H H' := by
  obtain ⟨H', c, k'⟩ := F70.ok hs hn
  refine ⟨H', call ⟨_, _, c, ?_⟩, k'⟩
  have := bad1_le l
  rw [show decide (bad1 l ≥ 0) = decide (¬∀ c ∈ l, mayC c) from decide_eq_decide.2 (by rw [← bad1_all]; omega)]
end F57
namespace F44
theorem ok {H : Heap} {a : Option Addr} {n k : Nat} {l : List C5} (hs : Cells H a n k l) (hn : n ≤ 1000000000) : ∃ H', Cc 44 [.slice a n k] H = some (.bool (decide (cellsP l)), H') ∧ Keep H.next H H' := by
  have hl := hs.cnt C5.z (by decide)
  by_cases h8 : (n : Int) ≤ 8
  · obtain ⟨H', c, k'⟩ := F57.ok hs hn
    refine ⟨H', call ?_, k'⟩
    rw [if_pos h8]
    refine ⟨_, _, c, ?_⟩
    by_cases h : ∀ c ∈ l, mayC c
    · rw [show decide (¬∀ c ∈ l, mayC c) = false from decide_eq_false (fun x => x h), decide_eq_true (show cellsP l from ⟨by omega, h⟩)]; rfl
    · rw [show decide (¬∀ c ∈ l, mayC c) = true from decide_eq_true h, decide_eq_false (show ¬cellsP l from fun x => h x.2)]; rfl
  · refine ⟨H, call ?_, Keep.refl _ _⟩
    rw [if_neg h8, decide_eq_false (show ¬cellsP l from fun x => by have := x.1; omega)]
end F44
namespace F94
theorem ok {H : Heap} {g : Gr} (h : GrOk H g) : ∃ H', Cc 94 [g.agg] H = some (.bool (decide (mayG g.v)), H') ∧ Keep H.next H H' := by
  obtain ⟨H1, e1, n1, g1, k1⟩ := one H g.cells
  have h1 := h.keep k1
  have no : ∀ {P : Prop}, ¬mayG g.v → (∃ H', Cc 94 [g.agg] H = some (.bool false, H') ∧ Keep H.next H H') → ∃ H', Cc 94 [g.agg] H = some (.bool (decide (mayG g.v)), H') ∧ Keep H.next H H' := fun hn h => by rw [decide_eq_false hn]; exact h
  by_cases c1 : inP g.v.n 0 15
  · by_cases c2 : g.v.d ≥ 0
    · by_cases c3 : g.v.d ≤ 255
      · obtain ⟨H2, c4, k2⟩ := F44.ok h1.l h1.s
        refine ⟨H2, call ⟨_, e1, _, rldc' g1 0, _, _, F42.ok _ _, ?_⟩, k1.trans (k2.weak (by omega))⟩
        rw [if_pos (by simpa using c1)]
        refine ⟨_, rldc' g1 1, ?_⟩
        rw [if_pos c2]
        refine ⟨_, rldc' g1 1, ?_⟩
        rw [if_pos c3]
        refine ⟨_, _, _, rldc' g1 3, _, _, c4, ?_⟩
        rw [show decide (mayG g.v) = decide (cellsP g.v.l) from decide_eq_decide.2 ⟨fun m => m.2.2, fun m => ⟨c1, ⟨c2, c3⟩, m⟩⟩]
      · refine no (P := True) (fun m => c3 m.2.1.2) ⟨H1, call ⟨_, e1, _, rldc' g1 0, _, _, F42.ok _ _, ?_⟩, k1⟩
        rw [if_pos (by simpa using c1)]
        refine ⟨_, rldc' g1 1, ?_⟩
        rw [if_pos c2]
        refine ⟨_, rldc' g1 1, ?_⟩
        rw [if_neg c3]
    · refine no (P := True) (fun m => c2 m.2.1.1) ⟨H1, call ⟨_, e1, _, rldc' g1 0, _, _, F42.ok _ _, ?_⟩, k1⟩
      rw [if_pos (by simpa using c1)]
      refine ⟨_, rldc' g1 1, ?_⟩
      rw [if_neg c2]
  · refine no (P := True) (fun m => c1 m.1) ⟨H1, call ⟨_, e1, _, rldc' g1 0, _, _, F42.ok _ _, ?_⟩, k1⟩
    rw [if_neg (by simpa using c1)]
end F94
namespace F95
theorem l0 {G : Heap} {base p : Nat} {a : Option Addr} {n k : Nat} {l : List C5} (hs : Cells G a n k l) (hn : n ≤ 8) (hG : base ≤ G.next) : ∀ (rest : List C5) (j : Nat) (xs : List Int) (H : Heap), l.drop j = rest → j + rest.length = n → Chg (fun b => base ≤ b) G H → (∀ b, In1 a b → b < base) → WB base H p xs → xs.length + 5 * rest.length ≤ 900 →
    ∃ H', L0 (some ⟨p, 0, none⟩) a n k (n : Int) (j : Int) H (.tuple #[], H') ∧ WB base H' p (xs ++ rest.flatMap cellB) ∧ Keep base H H' := by
  intro rest
  induction rest with
  | nil =>
    intro j xs H hd hj hc ha hw hx
    simp only [List.length_nil] at hj
    refine ⟨H, L0_step ?_, by simpa using hw, Keep.refl _ _⟩
    rw [if_neg (by omega)]
  | cons c rest ih =>
    intro j xs H hd hj hc ha hw hx
    simp only [List.length_cons] at hj hx
    have sH : Cells H a n k l := hs.chg hc fun b hb h => by have := ha b hb; omega
    obtain ⟨b, o, rfl⟩ := hs.at (by omega)
    have ra := Sl.recs C5.z sH (drop_get hd)
    obtain ⟨H2, s2, g2, k2, n2⟩ := fill H c50.cells c.cells rfl
    have hb := hw.2.1
    have w2 := hw.new k2
    obtain ⟨H3, c3, w3, f3⟩ := w2.put8 (x := c.f) rfl (by omega)
    obtain ⟨H4, c4, w4, f4⟩ := w3.put8 (x := c.s) rfl (by simp; omega)
    obtain ⟨H5, c5, w5, f5⟩ := w4.put8 (x := c.c) rfl (by simp; omega)
    obtain ⟨H6, c6, w6, f6⟩ := w5.put8 (x := c.o) rfl (by simp; omega)
    obtain ⟨H7, c7, w7, f7⟩ := w6.put8 (x := c.p) rfl (by simp; omega)
    have kk : Keep base H H7 := ((((k2.weak hb).trans f3).trans f4).trans f5).trans (f6.trans f7)
    have ex : xs ++ [c.f] ++ [c.s] ++ [c.c] ++ [c.o] ++ [c.p] = xs ++ cellB c := by simp [cellB]
    rw [ex] at w7
    obtain ⟨H', z, w', f'⟩ := ih (j + 1) (xs ++ cellB c) H7 (drop_next hd) (by omega) (hc.trans kk.chg fun _ _ h => h) ha w7 (by simp [cellB]; omega)
    refine ⟨H', L0_step ?_, by rw [List.flatMap_cons, ← List.append_assoc]; exact w', kk.trans f'⟩
    rw [if_pos (by omega)]
    refine ⟨b, o, rfl, by omega, by omega, _, _, _, _, _, ra, _, rfl, H2, s2, _, rldc' g2 0, _, rldc' g2 1, _, rldc' g2 2, _, rldc' g2 3, _, rldc' g2 4, L1_step ?_⟩
    rw [if_pos (by decide)]
    refine ⟨_, rfl, H3, c3, L1_step ?_⟩
    rw [if_pos (by decide)]
    refine ⟨_, rfl, H4, c4, L1_step ?_⟩
    rw [if_pos (by decide)]
    refine ⟨_, rfl, H5, c5, L1_step ?_⟩
    rw [if_pos (by decide)]
    refine ⟨_, rfl, H6, c6, L1_step ?_⟩
    rw [if_pos (by decide)]
    refine ⟨_, rfl, H7, c7, L1_step ?_⟩
    rw [if_neg (by decide), i64 (by omega) (by omega)]
    exact_mod_cast z
theorem ok {base : Nat} {H : Heap} {p : Nat} {g : Gr} (h : WB base H p []) (hg : GrOk H g) (hm : mayG g.v) (ha : ∀ b, In1 g.sa b → b < base) : ∃ H', Cc 95 [g.agg, .pointer (some ⟨p, 0, none⟩)] H = some (.tuple #[], H') ∧ WB base H' p (encG g.v) ∧ Keep base H H' := by
  obtain ⟨H1, e1, n1, g1, k1⟩ := one H g.cells
  have h8 := hm.2.2.1
  have w1 := h.row k1 n1
  obtain ⟨H2, c2, w2, f2, g2⟩ := w1.put8 (x := 71) (y := 71) rfl (by simp)
  rw [g1] at g2
  obtain ⟨H3, c3, w3, f3, g3⟩ := w2.put8 (x := g.v.n) rfl (by simp)
  rw [g2] at g3
  obtain ⟨H4, c4, w4, f4, g4⟩ := w3.put8 (x := g.v.d) rfl (by simp)
  rw [g3] at g4
  obtain ⟨H5, c5, w5, f5, g5⟩ := w4.put32 g.v.a (by simp)
  rw [g4] at g5
  obtain ⟨H6, c6, w6, f6, g6⟩ := w5.put8 (x := (g.v.l.length : Int)) rfl (by simp [beB_len])
  rw [g5] at g6
  have kk : Keep base H H6 := (((((k1.weak h.2.1).trans f2).trans f3).trans f4).trans f5).trans f6
  obtain ⟨H7, z, w7, f7⟩ := l0 (base := base) (p := p) hg.l h8 h.2.1 g.v.l 0 _ H6 rfl (by omega) kk.chg ha w6.wb (by simp [beB_len]; omega)
  have ex : [] ++ [71] ++ [g.v.n] ++ [g.v.d] ++ beB g.v.a 4 ++ [(g.v.l.length : Int)] ++ g.v.l.flatMap cellB = encG g.v := by simp [encG]
  rw [ex] at w7
  exact ⟨H7, call ⟨_, e1, H2, c2, _, rldc' g2 0, H3, c3, _, rldc' g3 1, H4, c4, _, rldc' g4 2, H5, c5, _, _, _, rldc' g5 3, H6, c6, _, _, _, rldc' g6 3, z⟩, w7, kk.trans f7⟩
end F95
namespace F28
theorem ok {t gm gp : Nat} {val : Value} {m : Prop} [Decidable m] {xs : List Int} (key : Int) {H : Heap} (e1 : xmethod Try.prog t "campanile/join.may" = some gm) (e2 : fnGoes Try.prog gm = true) (e3 : xmethod Try.prog t "campanile/join.put" = some gp) (e4 : fnGoes Try.prog gp = true)
    (hmay : ∃ H1, Cc gm [val] H = some (.bool (decide m), H1) ∧ Keep H.next H H1) (hput : m → ∀ X p, Keep H.next H X → WB H.next X p [] → ∃ H', Cc gp [val, .pointer (some ⟨p, 0, none⟩)] X = some (.tuple #[], H') ∧ WB H.next H' p xs ∧ Keep H.next X H') (hb : m → IsB xs) (hl : m → xs.length ≤ 900) :
    ∃ a k H', Cc 28 [.int .u64 key, .iface t val] H = some (.tuple #[.slice a (if m then sealed key xs else []).length k, .int .i64 (if m then 0 else 1)], H') ∧ OwnI .u8 H.next H' a (if m then sealed key xs else []).length k (if m then sealed key xs else []) ∧ Keep H.next H H' := by
  obtain ⟨H1, c1, k1⟩ := hmay
  by_cases hm : m
  · rw [if_pos hm, if_pos hm]
    have hb := hb hm
    have hl := hl hm
    have k2 : Keep H1.next H1 (H1.push (.row [.slice none 0 0, .int .i64 0] true)) := Keep.push _ (Nat.le_refl _)
    have w0 : WB H.next (H1.push (.row [.slice none 0 0, .int .i64 0] true)) H1.next [] := ⟨k1.next, by have := k1.next; simp; omega, none, 0, 0, WR.mk0 H1, fun b hb => absurd hb In1.none⟩
    generalize E2 : H1.push (.row [.slice none 0 0, .int .i64 0] true) = H2 at w0 k2
    have k02 : Keep H.next H H2 := k1.trans (k2.weak k1.next)
    obtain ⟨H3, c3, w3, k3⟩ := hput hm H2 H1.next k02 w0
    obtain ⟨a4, j4, H4, c4, o4, k4⟩ := w3.bytes hb (by omega)
    obtain ⟨H5, c5, k5⟩ := F47.ok key (o4.sl) (by omega)
    have w5 := (w3.new k4).new k5
    obtain ⟨H6, c6, w6, k6⟩ := w5.put32 (nb (tagB key xs)) (by omega)
    obtain ⟨a7, j7, H7, c7, o7, k7⟩ := w6.bytes (sealed_isB hb) (by rw [← sealed, sealed_len]; omega)
    have n3 := w3.2.1
    have n5 := w5.2.1
    have n6 := w6.2.1
    have n4 := k4.next
    refine ⟨a7, j7, H7, call (.inr ⟨_, _, rfl, gm, e1, e2, _, _, c1, ?_⟩), o7.weak n6, ((((k02.trans k3).trans (k4.weak n3)).trans (k5.weak (by omega))).trans k6).trans (k7.weak n6)⟩
    rw [if_pos (by simpa using hm)]
    exact ⟨H2, E2.symm, gp, e3, e4, H3, c3, _, _, _, _, c4, _, _, c5, H6, c6, _, _, _, _, c7, rfl⟩
  · rw [if_neg hm, if_neg hm]
    refine ⟨none, 0, H1, call (.inr ⟨_, _, rfl, gm, e1, e2, _, _, c1, ?_⟩), OwnI.nil, k1⟩
    rw [if_neg (by simpa using hm)]
    rfl
end F28
/-- A request's bytes; a grant's. -/
def askB (key : Int) (v : RQ) : List Int := if mayR v then sealed key (encR v) else []
def giveB (key : Int) (v : GV) : List Int := if mayG v then sealed key (encG v) else []
theorem askB_isB (key : Int) (v : RQ) : IsB (askB key v) := by unfold askB; split; exact sealed_isB (encR_isB (by assumption)); exact isB_nil
theorem giveB_isB (key : Int) (v : GV) : IsB (giveB key v) := by unfold giveB; split; exact sealed_isB (encG_isB (by assumption)); exact isB_nil
theorem askB_len (key : Int) (v : RQ) : (askB key v).length ≤ 15 := by unfold askB; split <;> simp [sealed_len, encR_len]
theorem giveB_len (key : Int) (v : GV) : (giveB key v).length ≤ 52 := by
  unfold giveB; split
  · rename_i h; have := h.2.2.1; rw [sealed_len, encG_len]; omega
  · simp
namespace F9
theorem ok (key : Int) (v : RQ) (H : Heap) : ∃ a k H', Cc 9 [.int .u64 key, v.agg] H = some (.tuple #[.slice a (askB key v).length k, .int .i64 (if mayR v then 0 else 1)], H') ∧ OwnI .u8 H.next H' a (askB key v).length k (askB key v) ∧ Keep H.next H H' := by
  obtain ⟨H1, e1, n1, g1, k1⟩ := one H v.cells
  obtain ⟨a, k, H2, c2, o2, k2⟩ := F28.ok (t := 65) (gm := 92) (gp := 93) (val := v.agg) (m := mayR v) (xs := encR v) key (H := H1) (by kernel_rfl) (by kernel_rfl) (by kernel_rfl) (by kernel_rfl) (F92.ok v H1) (fun _ X p _ w => F93.ok v w) encR_isB (fun _ => by rw [encR_len]; omega)
  exact ⟨a, k, H2, call ⟨_, e1, _, _, _, _, _, rldAll g1, _, _, _, _, _, c2, rfl⟩, o2.weak (by omega), k1.trans (k2.weak (by omega))⟩
end F9
namespace F11
theorem ok (key : Int) {H : Heap} {g : Gr} (h : GrOk H g) : ∃ a k H', Cc 11 [.int .u64 key, g.agg] H = some (.tuple #[.slice a (giveB key g.v).length k, .int .i64 (if mayG g.v then 0 else 1)], H') ∧ OwnI .u8 H.next H' a (giveB key g.v).length k (giveB key g.v) ∧ Keep H.next H H' := by
  obtain ⟨H1, e1, n1, g1, k1⟩ := one H g.cells
  have h1 := h.keep k1
  obtain ⟨a, k, H2, c2, o2, k2⟩ := F28.ok (t := 71) (gm := 94) (gp := 95) (val := g.agg) (m := mayG g.v) (xs := encG g.v) key (H := H1) (by kernel_rfl) (by kernel_rfl) (by kernel_rfl) (by kernel_rfl) (F94.ok h1) (fun hm X p kx w => F95.ok w (h1.keep kx) hm fun b hb => Sl.lt h1.l hb) encG_isB (fun hm => by have := hm.2.2.1; rw [encG_len]; omega)
  exact ⟨a, k, H2, call ⟨_, e1, _, _, _, _, _, _, _, rldAll g1, _, _, _, _, _, c2, rfl⟩, o2.weak (by omega), k1.trans (k2.weak (by omega))⟩
end F11
/-- The reader's state behind so many bytes. -/
def stR (bs : List Int) (j : Nat) : List Bool := if j ≤ bs.length then tbits (bs.drop j) else []
def stE (bs : List Int) (j : Nat) : Int := if j ≤ bs.length then 0 else 2
def stV (bs : List Int) (j w : Nat) : Int := if j + w ≤ bs.length then beV ((bs.drop j).take w) else 0
theorem tbits_take (bs : List Int) (w : Nat) : (tbits bs).take (8 * w) = tbits (bs.take w) := by
  by_cases h : w ≤ bs.length
  · have e : bs = bs.take w ++ bs.drop w := (List.take_append_drop w bs).symm
    conv => lhs; rw [e, tbits_append]
    rw [List.take_left' (by rw [tbits_len, List.length_take, Nat.min_eq_left h])]
  · rw [List.take_of_length_le (by rw [tbits_len]; omega), List.take_of_length_le (by omega)]
theorem tbits_drop (bs : List Int) (w : Nat) : (tbits bs).drop (8 * w) = tbits (bs.drop w) := by
  by_cases h : w ≤ bs.length
  · have e : bs = bs.take w ++ bs.drop w := (List.take_append_drop w bs).symm
    conv => lhs; rw [e, tbits_append]
    rw [List.drop_left' (by rw [tbits_len, List.length_take, Nat.min_eq_left h])]
  · rw [List.drop_eq_nil_of_le (by rw [tbits_len]; omega), List.drop_eq_nil_of_le (by omega)]; rfl
theorem takeS_st (bs : List Int) (j : Nat) {w : Nat} (h1 : 1 ≤ w) (h8 : w ≤ 8) : takeS (stR bs j) (stE bs j) ((8 * w : Nat) : Int) = (stV bs j w, stR bs (j + w), stE bs (j + w)) := by
  unfold stR stE stV takeS
  by_cases hj : j ≤ bs.length
  · rw [if_pos hj, if_pos hj, if_neg (by omega), tbits_len, List.length_drop]
    by_cases hw : j + w ≤ bs.length
    · rw [if_neg (by omega), if_pos hw, if_pos hw, if_pos hw, Int.toNat_natCast, tbits_take, tbits_drop, List.drop_drop]
      rfl
    · rw [if_pos (by omega), if_neg hw, if_neg hw, if_neg hw]
  · rw [if_neg hj, if_neg hj, if_pos (by omega), if_neg (by omega), if_neg (by omega), if_neg (by omega)]
theorem stV_one {bs : List Int} (hb : IsB bs) (j : Nat) : stV bs j 1 = bs.getD j 0 ∧ 0 ≤ bs.getD j 0 ∧ bs.getD j 0 < 256 := by
  unfold stV
  by_cases h : j + 1 ≤ bs.length
  · have hx : bs[j]? = some (bs.getD j 0) := by simp [List.getD, List.getElem?_eq_getElem (show j < bs.length by omega)]
    have hc := hb.get hx
    rw [if_pos h, list_split (show j < bs.length by omega)]
    exact ⟨beV_one hc, hc⟩
  · have : bs.getD j 0 = 0 := by rw [List.getD, List.getElem?_eq_none (by omega)]; rfl
    rw [if_neg h, this]; omega
section
variable {H : Heap} {p : Nat} {a : Option Addr} {bs : List Int} {j : Nat}
/-- A reader behind so many bytes. -/
abbrev RB (H : Heap) (p : Nat) (a : Option Addr) (bs : List Int) (j : Nat) : Prop := RM H p a (stR bs j) (stE bs j)
theorem RB.take (h : RB H p a bs j) {w : Nat} (h1 : 1 ≤ w) (h8 : w ≤ 8) : ∃ a2 H', Cc 72 [.pointer (some ⟨p, 0, none⟩), .int .i64 ((8 * w : Nat) : Int)] H = some (.int .u64 (stV bs j w), H') ∧ RB H' p a2 bs (j + w) ∧ Fd p a a2 H H' := by
  have := F72.all h ((8 * w : Nat) : Int)
  rw [takeS_st bs j h1 h8] at this
  exact this
theorem RB.end_ (h : RB H p a bs j) : Cc 55 [.pointer (some ⟨p, 0, none⟩)] H = some (.int .i64 (if bs.length < j then 2 else if j < bs.length then 3 else 0), H) := by
  have := F55.ok h
  rw [this]
  congr 3
  unfold stE stR
  by_cases hj : j ≤ bs.length
  · rw [if_pos hj, if_pos hj, if_neg (show ¬bs.length < j by omega)]
    by_cases hj2 : j < bs.length
    · have : tbits (bs.drop j) ≠ [] := by intro e; have := congrArg List.length e; rw [tbits_len] at this; simp at this; omega
      rw [if_pos ⟨rfl, this⟩, if_pos hj2]
    · rw [List.drop_eq_nil_of_le (by omega), if_neg (by simp [tbits]), if_neg hj2]
  · rw [if_neg hj, if_neg hj, if_pos (show bs.length < j by omega), if_neg (by simp)]
end
theorem RM.alt {H : Heap} {p : Nat} {a : Option Addr} {R : List Bool} {e : Int} (h : RM H p a R e) : ∀ b, In1 a b → b < H.next := by obtain ⟨n, k, B, at_, h⟩ := h; exact fun b hb => h.s.lt hb
theorem stV_range (bs : List Int) (j : Nat) {w : Nat} (hw : w ≤ 8) : 0 ≤ stV bs j w ∧ stV bs j w < 2 ^ (8 * w) := by
  unfold stV
  split
  · rename_i h
    exact beV_range (by simp; omega) hw
  · exact ⟨Int.le_refl _, by have : (0 : Int) < 2 ^ (8 * w) := Int.pow_pos (by decide); omega⟩
theorem u32_id {x : Int} (h : 0 ≤ x ∧ x < 2 ^ (8 * 4)) : IntKind.wrap .u32 x = x := by
  rw [wrap_nb (k := .u32) rfl]
  exact nb_ofInt (n := 32) h.1 (by have := h.2; show x < (2 : Int) ^ 32; omega)
/-- The reader of messages: the reader of bits behind it, the first error. -/
structure JR (H : Heap) (r p : Nat) (bs : List Int) (j : Nat) (e : Int) : Prop where
  lt : p < r
  rlt : r < H.next
  row : H.get r = .row [.pointer (some ⟨p, 0, none⟩), .int .i64 e] true
  rb : ∃ a, RB H p a bs j ∧ ∀ b, In1 a b → b < r
section
variable {H : Heap} {r p : Nat} {bs : List Int} {j : Nat} {e : Int}
theorem JR.chg {S : Nat → Prop} {H' : Heap} (h : JR H r p bs j e) (c : Chg S H H') (hS : ∀ b, b ≤ r → ¬S b) : JR H' r p bs j e := by
  obtain ⟨a, rb, ha⟩ := h.rb
  exact ⟨h.lt, Nat.lt_of_lt_of_le h.rlt c.next, by rw [c.get r h.rlt (hS r (Nat.le_refl _))]; exact h.row, a, rb.chg c (hS p (Nat.le_of_lt h.lt)) fun b hb => hS b (Nat.le_of_lt (ha b hb)), ha⟩
theorem JR.new {H' : Heap} (h : JR H r p bs j e) (k : Keep H.next H H') : JR H' r p bs j e := h.chg (k.chg0 (S := fun _ => False)) fun _ _ h => h
theorem JR.set {b : Nat} {o : AObj} (h : JR H r p bs j e) (hb : r < b) : JR (H.set b o) r p bs j e := h.chg (chgSet' o) fun c hc hs => by have hs : c = b := hs; omega
theorem JR.take (h : JR H r p bs j e) {w : Nat} (h1 : 1 ≤ w) (h8 : w ≤ 8) : ∃ H', Cc 72 [.pointer (some ⟨p, 0, none⟩), .int .i64 ((8 * w : Nat) : Int)] H = some (.int .u64 (stV bs j w), H') ∧ JR H' r p bs (j + w) e ∧ Chg (fun b => b = p) H H' := by
  obtain ⟨a, rb, ha⟩ := h.rb
  obtain ⟨a2, H', c, rb', f⟩ := rb.take h1 h8
  exact ⟨H', c, ⟨h.lt, Nat.lt_of_lt_of_le h.rlt f.chg.next, by rw [f.chg.get r h.rlt (fun hh => by have hh : r = p := hh; have := h.lt; omega)]; exact h.row, a2, rb', fun b hb => ha b (f.arr b hb)⟩, f.chg⟩
theorem JR.fin (h : JR H r p bs j e) : Cc 55 [.pointer (some ⟨p, 0, none⟩)] H = some (.int .i64 (if bs.length < j then 2 else if j < bs.length then 3 else 0), H) := by
  obtain ⟨a, rb, ha⟩ := h.rb
  exact rb.end_
theorem F63.ok (hb : IsB bs) (h : JR H r p bs j e) : ∃ H', Cc 63 [.pointer (some ⟨r, 0, none⟩)] H = some (.int .i64 (bs.getD j 0), H') ∧ JR H' r p bs (j + 1) e ∧ Chg (fun b => b = p) H H' := by
  obtain ⟨H', c, h', g⟩ := h.take (w := 1) (by omega) (by omega)
  obtain ⟨e1, h0, h1⟩ := stV_one hb j
  rw [e1] at c
  refine ⟨H', F63.call ⟨r, 0, rfl, _, rldc' h.row 0, _, _, c, ?_⟩, h', g⟩
  rw [i64 (by omega) (by omega)]
theorem F66.ok (h : JR H r p bs j e) : ∃ H', Cc 66 [.pointer (some ⟨r, 0, none⟩)] H = some (.int .u32 (stV bs j 4), H') ∧ JR H' r p bs (j + 4) e ∧ Chg (fun b => b = p) H H' := by
  obtain ⟨H', c, h', g⟩ := h.take (w := 4) (by omega) (by omega)
  refine ⟨H', F66.call ⟨r, 0, rfl, _, rldc' h.row 0, _, _, c, ?_⟩, h', g⟩
  rw [u32_id (stV_range bs j (by omega))]
/-- The error behind a check. -/
def chkE (bs : List Int) (j : Nat) (e : Int) (ok : Prop) [Decidable ok] : Int := if e ≠ 0 then e else if bs.length < j then 2 else if ok then 0 else 3
theorem F64.ok (h : JR H r p bs j e) (m : Prop) [Decidable m] : ∃ H', Cc 64 [.pointer (some ⟨r, 0, none⟩), .bool (decide m)] H = some (.bool (chkE bs j e m == 0), H') ∧ JR H' r p bs j (chkE bs j e m) ∧ Chg (fun b => b = r) H H' := by
  have hrow : ∀ x : Int, stc H r 1 [.int .i64 x] = some (H.set r (.row [.pointer (some ⟨p, 0, none⟩), .int .i64 x] true)) := fun x => rstc' h.row (i := 1) (by simp) _
  have upd : ∀ x : Int, JR (H.set r (.row [.pointer (some ⟨p, 0, none⟩), .int .i64 x] true)) r p bs j x := fun x => by
    obtain ⟨a, rb, ha⟩ := h.rb
    have c : Chg (fun b => b = r) H (H.set r (.row [.pointer (some ⟨p, 0, none⟩), .int .i64 x] true)) := chgSet' _
    exact ⟨h.lt, h.rlt, by simp, a, rb.chg c (fun hh => by have hh : p = r := hh; have := h.lt; omega) fun b hb hh => by have := ha b hb; have hh : b = r := hh; omega, ha⟩
  unfold chkE
  by_cases he : e = 0
  · rw [if_neg (fun c => c he)]
    have cf := h.fin
    by_cases hl : bs.length < j
    · rw [if_pos hl] at cf ⊢
      refine ⟨_, F64.call ⟨r, 0, rfl, _, rldc' h.row 1, ?_⟩, upd 2, chgSet' _⟩
      rw [if_pos he]
      refine ⟨_, rldc' h.row 0, _, _, cf, ?_⟩
      rw [if_pos rfl]
      exact ⟨_, hrow 2, F64.L0_step ⟨_, rldc' (upd 2).row 1, rfl⟩⟩
    · rw [if_neg hl] at cf ⊢
      by_cases hm : m
      · rw [if_pos hm]
        have h0 : JR H r p bs j 0 := by rw [← he]; exact h
        refine ⟨H, F64.call ⟨r, 0, rfl, _, rldc' h.row 1, ?_⟩, h0, Chg.refl _⟩
        rw [if_pos he]
        refine ⟨_, rldc' h.row 0, _, _, cf, ?_⟩
        rw [if_neg (by split <;> decide), if_pos (decide_eq_true hm)]
        exact F64.L0_step ⟨_, rldc' h0.row 1, rfl⟩
      · rw [if_neg hm]
        refine ⟨_, F64.call ⟨r, 0, rfl, _, rldc' h.row 1, ?_⟩, upd 3, chgSet' _⟩
        rw [if_pos he]
        refine ⟨_, rldc' h.row 0, _, _, cf, ?_⟩
        rw [if_neg (by split <;> decide), if_neg (by simpa using hm)]
        exact ⟨_, hrow 3, F64.L0_step ⟨_, rldc' (upd 3).row 1, rfl⟩⟩
  · rw [if_pos he]
    refine ⟨H, F64.call ⟨r, 0, rfl, _, rldc' h.row 1, ?_⟩, h, Chg.refl _⟩
    rw [if_neg he]
    exact F64.L0_step ⟨_, rldc' h.row 1, rfl⟩
/-- What is read stands below and beside. -/
abbrev RP (r p : Nat) (b : Nat) : Prop := b = p ∨ b = r
theorem F51.ok (hb : IsB bs) (h : JR H r p bs j e) {g : Nat} {x y : Array Value} (m : Prop) [Decidable m] (hg : fnGoes Try.prog g = true) (hc : ∀ X, Chg (RP r p) H X → Cc g (Array.toList x ++ [.int .i64 (bs.getD j 0)] ++ Array.toList y) X = some (.bool (decide m), X)) :
    ∃ H', Cc 51 [.pointer (some ⟨r, 0, none⟩), .func (.func g) x y] H = some (.int .i64 (if chkE bs (j + 1) e m = 0 then bs.getD j 0 else 0), H') ∧ JR H' r p bs (j + 1) (chkE bs (j + 1) e m) ∧ Chg (RP r p) H H' := by
  obtain ⟨H1, c1, h1, g1⟩ := F63.ok hb h
  have g1' : Chg (RP r p) H H1 := g1.weak fun _ _ h => .inl h
  obtain ⟨H2, c2, h2, g2⟩ := F64.ok h1 m
  refine ⟨H2, F51.call ⟨_, _, c1, g, x, y, rfl, hg, _, _, hc H1 g1', _, _, c2, ?_⟩, h2, g1'.trans g2 fun _ _ h => .inr h⟩
  by_cases h0 : chkE bs (j + 1) e m = 0
  · rw [if_pos (by rw [h0]; rfl), if_pos h0]
  · rw [if_neg (by simpa using h0), if_neg h0]
end
end Go.X
