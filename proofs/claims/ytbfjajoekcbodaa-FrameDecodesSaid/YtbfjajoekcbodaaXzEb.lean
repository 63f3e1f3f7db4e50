/- What the writers and readers of bits come to. -/
import Derived.Test.YtbfjajoekcbodaaXzTeB
import Derived.Test.YtbfjajoekcbodaaXzBt
import Derived.Test.YtbfjajoekcbodaaXzS
set_option linter.unusedVariables false
set_option linter.unusedSimpArgs false
set_option maxRecDepth 20000
namespace Go.X
open Go Go.RowKit Go.Proofs
noncomputable abbrev Cc := xC Try.prog good
abbrev By := Ints .u8
theorem rldc {H : Heap} {p : Nat} {vs : List Value} {own : Bool} (h : H.get p = .row vs own) (i : Nat) : ldc H p i = vs[i]? := by
  unfold ldc; rw [h]
theorem rstc {H : Heap} {p : Nat} {vs : List Value} (h : H.get p = .row vs true) {i : Nat} (hi : i < vs.length) (v : Value) : stc H p i [v] = some (H.set p (.row (vs.set i v) true)) := by
  unfold stc; rw [h]; simp only [List.length_cons, List.length_nil]
  rw [if_pos (by omega)]; rfl
theorem OwnI.putc {K : IntKind} {base : Nat} {H : Heap} {n k b o : Nat} {xs : List Int} (h : OwnI K base H (some ⟨b, o, none⟩) n k xs) {i : Nat} (hi : i < n) (v : Int) :
    ∃ H', stc H b (o + Int.toNat (i : Int) * 1) [.int K v] = some H' ∧ OwnI K base H' (some ⟨b, o, none⟩) n k (xs.set i v) ∧ Chg (In1 (some ⟨b, o, none⟩)) H H' ∧ H'.next = H.next := by
  have hl := h.ln
  obtain ⟨H', c, o2, _, e⟩ := OwnI.put h hi v
  refine ⟨H', c, o2, ?_, e⟩
  obtain ⟨_, ⟨h0, _⟩ | ⟨b', o', cs, h1, h2, h3, h4, h5, h6, h7⟩⟩ := h
  · cases h0
  · cases h1
    unfold stc at c
    rw [h5] at c
    simp only at c
    split at c
    · cases c
      exact Chg.set _ (In1.eq.2 rfl)
    · cases c
theorem tmod8 (n : Nat) : Int.tmod (n : Int) 8 = ((n % 8 : Nat) : Int) := by
  rw [Int.tmod_eq_emod_of_nonneg (by omega)]; omega
/-- A writer. -/
structure WR (H : Heap) (p : Nat) (L : List Bool) (a : Option Addr) (n k : Nat) : Prop where
  row : H.get p = .row [.slice a n k, .int .i64 (L.length : Int)] true
  lt : p < H.next
  own : OwnI .u8 0 H a n k (pack L)
  apart : ¬In1 a p
/-- .. with a new byte, if there is no room. -/
structure WR' (H : Heap) (p : Nat) (L : List Bool) (a : Option Addr) (n k : Nat) : Prop where
  row : H.get p = .row [.slice a n k, .int .i64 (L.length : Int)] true
  lt : p < H.next
  own : OwnI .u8 0 H a n k ((pack L) ++ (if L.length % 8 = 0 then [0] else []))
  apart : ¬In1 a p
section
variable {H H' : Heap} {p : Nat} {L : List Bool} {a : Option Addr} {n k : Nat} {S : Nat → Prop}
theorem WR.chg (h : WR H p L a n k) (c : Chg S H H') (hp : ¬S p) (ha : ∀ b, In1 a b → ¬S b) : WR H' p L a n k :=
  ⟨by rw [c.get p h.lt hp]; exact h.row, Nat.lt_of_lt_of_le h.lt c.next, h.own.chg c ha, h.apart⟩
theorem WR.new (h : WR H p L a n k) (c : Keep H.next H H') : WR H' p L a n k := h.chg (c.chg0 (S := fun _ => False)) (fun h => h) fun _ _ h => h
theorem WR.cnt (h : WR H p L a n k) : n = (L.length + 7) / 8 := by have := h.own.ln; rw [pack_len] at this; omega
end
theorem WR.mk0 (H : Heap) : WR (H.push (.row [.slice none 0 0, .int .i64 0] true)) H.next [] none 0 0 := ⟨by simp, by simp, ⟨rfl, .inl ⟨rfl, rfl, rfl⟩⟩, In1.none⟩
namespace F71
theorem ok (x : Int) (H : Heap) : Cc 71 [.int .i64 x] H = some (.bool (decide (0 ≤ x ∧ x ≤ 64)), H) := by
  refine call ?_
  by_cases h : x ≥ 0
  · rw [if_pos h]
    rw [show decide (x ≤ 64) = decide (0 ≤ x ∧ x ≤ 64) by simp; omega]
  · rw [if_neg h, decide_eq_false (by omega)]
end F71
/-- What a call on a thing with one row of its own turns. -/
structure Ft (p : Nat) (a a' : Option Addr) (H H' : Heap) : Prop where
  chg : Chg (fun b => b = p ∨ In1 a b) H H'
  arr : ∀ b, In1 a' b → In1 a b ∨ H.next ≤ b
theorem Ft.refl {p : Nat} {a : Option Addr} (H : Heap) : Ft p a a H H := ⟨Chg.refl _, fun b h => .inl h⟩
theorem Ft.trans {p : Nat} {a a2 a3 : Option Addr} {H H2 H3 : Heap} (h : Ft p a a2 H H2) (k : Ft p a2 a3 H2 H3) : Ft p a a3 H H3 := by
  have hn := h.chg.next
  refine ⟨h.chg.trans k.chg fun b hb hT => ?_, fun b hb => ?_⟩
  · rcases hT with e | e
    · exact .inl e
    · rcases h.arr b e with e | e
      · exact .inr e
      · omega
  · rcases k.arr b hb with e | e
    · exact h.arr b e
    · exact .inr (by omega)
theorem Ft.keep {p base : Nat} {a a' : Option Addr} {H H' : Heap} (h : Ft p a a' H H') (hb : base ≤ H.next) (hp : base ≤ p) (ha : ∀ b, In1 a b → base ≤ b) : Keep base H H' := h.chg.keep hb fun b _ h => by
  rcases h with h | h
  · omega
  · exact ha b h
theorem Ft.of {p : Nat} {a : Option Addr} {H H' : Heap} (h : Keep H.next H H') : Ft p a a H H' := ⟨h.chg0, fun b h => .inl h⟩
namespace F41
variable {p : Nat}
theorem l2 {v : BitVec 64} {width left : Nat} {L : List Bool} {a : Option Addr} {n k : Nat} {H : Heap} (h : WR' H p L a n k) (h0 : 0 < left) (h64 : left ≤ 64) (hL : L.length ≤ 1099511627776) :
    ∃ H2, WR H2 p (L ++ seg v left (min (8 - L.length % 8) left)) a n k ∧ Ft p a a H H2 ∧ ∀ r, L1 (some ⟨p, 0, none⟩) (nb v) ((left - min (8 - L.length % 8) left : Nat) : Int) H2 r → L2 p 0 (nb v) (left : Int) H r := by
  have hn := h.own.ln
  rw [List.length_append, pack_len] at hn
  have hn' : n = L.length / 8 + 1 := by split at hn <;> simp at hn <;> omega
  obtain ⟨b, o, rfl⟩ := h.own.sl.at (by omega)
  generalize hk : min (8 - L.length % 8) left = m
  have e1 : IntKind.wrap .i64 (8 - Int.tmod (L.length : Int) 8) = ((8 - L.length % 8 : Nat) : Int) := by rw [tmod8, i64 (by omega) (by omega)]; omega
  have e2 : imin ((8 - L.length % 8 : Nat) : Int) (left : Int) = (m : Int) := by unfold imin; split <;> omega
  have e3 : IntKind.wrap .i64 ((left : Int) - (m : Int)) = ((left - m : Nat) : Int) := by rw [i64 (by omega) (by omega)]; omega
  have e4 : IntKind.wrap .i64 (((n : Nat) : Int) - 1) = ((L.length / 8 : Nat) : Int) := by rw [i64 (by omega) (by omega)]; omega
  have e5 : IntKind.wrap .i64 (((8 - L.length % 8 : Nat) : Int) - (m : Int)) = ((8 - L.length % 8 - m : Nat) : Int) := by rw [i64 (by omega) (by omega)]; omega
  have e6 : IntKind.wrap .i64 ((L.length : Int) + (m : Int)) = ((L ++ seg v left m).length : Int) := by rw [i64 (by omega) (by omega), List.length_append, seg_len]; omega
  have el : (L.drop (8 * (L.length / 8))).length = L.length % 8 := by simp; omega
  have hv := byte_or_int v (l := L.drop (8 * (L.length / 8))) (left := left) (k := m) h64 (by omega) (by omega) (x := ((left - m : Nat) : Int)) (y := (m : Int)) (z := ((8 - L.length % 8 - m : Nat) : Int)) rfl rfl (by rw [el])
  obtain ⟨H1, c1, o1, g1, _⟩ := h.own.putc (i := L.length / 8) (by omega) (nb (byteB (L.drop (8 * (L.length / 8)) ++ seg v left m)))
  rw [← pack_put L (seg v left m) (by rw [seg_len]; omega) (by rw [seg_len]; omega)] at o1
  have hp1 : H1.get p = .row [.slice (some ⟨b, o, none⟩) n k, .int .i64 (L.length : Int)] true := by rw [g1.get p h.lt h.apart]; exact h.row
  have g2 : Chg (fun c => c = p) H1 (H1.set p (.row [.slice (some ⟨b, o, none⟩) n k, .int .i64 ((L ++ seg v left m).length : Int)] true)) := Chg.set _ rfl
  refine ⟨_, ⟨?_, Nat.lt_of_lt_of_le h.lt (Nat.le_trans g1.next g2.next), o1.chg g2 fun c hc e => h.apart ((show c = p from e) ▸ hc), h.apart⟩, ⟨(g1.weak (T := fun c => c = p ∨ In1 (some ⟨b, o, none⟩) c) fun c _ h => .inr h).trans g2 fun c _ h => .inl h, fun b h => .inl h⟩, fun r z => ?_⟩
  · simp
  refine L2_step ⟨_, rldc h.row 1, ?_⟩
  rw [e1, e2, e3, e5]
  refine ⟨by omega, by omega, _, _, _, rldc h.row 0, _, _, _, rldc h.row 0, b, o, rfl, ?_⟩
  rw [e4]
  refine ⟨by omega, by omega, _, Ints.get h.own.sl (pack_last L), by omega, by omega, by omega, H1, ?_, _, rldc hp1 1, ?_⟩
  · rw [hv]; exact c1
  rw [e6]
  exact ⟨_, rstc hp1 (i := 1) (by simp) _, z⟩
theorem l1 {v : BitVec 64} : ∀ (left : Nat) (L : List Bool) (a : Option Addr) (n k : Nat) (H : Heap), WR H p L a n k → left ≤ 64 → L.length + left ≤ 1099511627776 →
    ∃ a' n' k' H', L1 (some ⟨p, 0, none⟩) (nb v) (left : Int) H (.tuple #[], H') ∧ WR H' p (L ++ bitsN v left) a' n' k' ∧ Ft p a a' H H' := by
  intro left
  induction left using Nat.strongRecOn with
  | _ left ih =>
  intro L a n k H h h64 hL
  by_cases h0 : left = 0
  · subst h0
    refine ⟨a, n, k, H, L1_step ?_, by simpa [seg] using h, Ft.refl _⟩
    rw [if_neg (by omega)]
  · have hn := h.cnt
    have key : ∀ (a2 : Option Addr) (n2 k2 : Nat) (H2 : Heap), WR' H2 p L a2 n2 k2 → Ft p a a2 H H2 →
        ∃ a' n' k' H', L2 p 0 (nb v) (left : Int) H2 (.tuple #[], H') ∧ WR H' p (L ++ bitsN v left) a' n' k' ∧ Ft p a a' H H' := by
      intro a2 n2 k2 H2 h2 f2
      obtain ⟨H3, w3, g3, st⟩ := l2 (width := 0) (v := v) h2 (by omega) h64 (by omega)
      obtain ⟨a', n', k', H', z1, z2, z3⟩ := ih (left - min (8 - L.length % 8) left) (by omega) _ a2 n2 k2 H3 w3 (by omega) (by rw [List.length_append, seg_len]; omega)
      rw [List.append_assoc, seg_app v (by omega) (Nat.le_refl _) (by omega)] at z2
      exact ⟨a', n', k', H', st _ z1, z2, f2.trans (g3.trans z3)⟩
    by_cases hr : L.length % 8 = 0
    · have k1 : Keep H.next H (H.push (.row [.int .u8 0] true)) := Keep.push _ (Nat.le_refl _)
      have h1 := h.new k1
      have on := OwnI.new (K := .u8) H [0]
      obtain ⟨a2, k2, H2, c2, o2, g2, f2⟩ := Own.append' (by_ := 1) h1.own on.sl (by decide) (Nat.zero_le _) (by simp; omega) (by simp; omega)
      have hp2 : H2.get p = .row [.slice a n k, .int .i64 (L.length : Int)] true := by rw [g2.get p h1.lt h.apart]; exact h1.row
      have g3 : Chg (fun c => c = p) H2 (H2.set p (.row [.slice a2 (n + 1) k2, .int .i64 (L.length : Int)] true)) := Chg.set _ rfl
      have fa : ∀ b, In1 a2 b → In1 a b ∨ H.next ≤ b := fun b hb => by
        rcases f2 b hb with e | e
        · exact .inl e
        · simp at e; exact .inr (by omega)
      have ap2 : ¬In1 a2 p := fun hb => by
        rcases fa p hb with e | e
        · exact h.apart e
        · have := h.lt; omega
      have w2 : WR' (H2.set p (.row [.slice a2 (n + 1) k2, .int .i64 (L.length : Int)] true)) p L a2 (n + 1) k2 := by
        refine ⟨by simp, Nat.lt_of_lt_of_le h1.lt (Nat.le_trans g2.next g3.next), ?_, ap2⟩
        rw [if_pos hr, OwnI, List.map_append]
        exact o2.chg g3 fun c hc e => ap2 ((show c = p from e) ▸ hc)
      obtain ⟨a', n', k', H', z1, z2, z3⟩ := key a2 (n + 1) k2 _ w2 ⟨(k1.chg0 (S := fun b => b = p ∨ In1 a b)).trans ((g2.weak (T := fun b => b = p ∨ In1 a b) fun b _ h => .inr h).trans g3 fun b _ h => .inl h) fun _ _ h => h, fa⟩
      refine ⟨a', n', k', H', L1_step ?_, z2, z3⟩
      rw [if_pos (by omega)]
      refine ⟨p, 0, rfl, _, rldc h.row 1, ?_⟩
      rw [if_pos (by rw [tmod8]; omega)]
      exact ⟨_, _, _, rldc h.row 0, _, rfl, _, _, _, _, c2, _, rstc hp2 (i := 0) (by simp) _, z1⟩
    · obtain ⟨a', n', k', H', z1, z2, z3⟩ := key a n k H ⟨h.row, h.lt, by rw [if_neg hr, List.append_nil]; exact h.own, h.apart⟩ (Ft.refl _)
      refine ⟨a', n', k', H', L1_step ?_, z2, z3⟩
      rw [if_pos (by omega)]
      refine ⟨p, 0, rfl, _, rldc h.row 1, ?_⟩
      rw [if_neg (by rw [tmod8]; omega)]
      exact z1
theorem ok {v : BitVec 64} {width : Nat} {L : List Bool} {a : Option Addr} {n k : Nat} {H : Heap} (h : WR H p L a n k) (hw : width ≤ 64) (hL : L.length + width ≤ 1099511627776) :
    ∃ a' n' k' H', Cc 41 [.pointer (some ⟨p, 0, none⟩), .int .u64 (nb v), .int .i64 (width : Int)] H = some (.tuple #[], H') ∧ WR H' p (L ++ bitsN v width) a' n' k' ∧ Ft p a a' H H' := by
  obtain ⟨a', n', k', H', z1, z2, z3⟩ := l1 (v := v) width L a n k H h hw hL
  refine ⟨a', n', k', H', call ?_, z2, z3⟩
  rw [if_neg (by simp)]
  refine ⟨_, _, F71.ok _ _, L0_step ?_⟩
  rw [decide_eq_true (by omega), if_neg (by simp)]
  exact z1
theorem bad {H : Heap} {x w : Int} (h : w < 0 ∨ 64 < w) : Cc 41 [.pointer (some ⟨p, 0, none⟩), .int .u64 x, .int .i64 w] H = some (.tuple #[], H) := by
  refine call ?_
  rw [if_neg (by simp)]
  refine ⟨_, _, F71.ok _ _, L0_step ?_⟩
  rw [decide_eq_false (by omega), if_pos (by simp)]
theorem nil {H : Heap} {x w : Int} : Cc 41 [.pointer none, .int .u64 x, .int .i64 w] H = some (.tuple #[], H) :=
  call ((if_pos (show (none : Option Addr).isNone = true from rfl)).mpr (L0_step (by rw [if_pos rfl])))
end F41
/-- A reader: what is left, its error. -/
structure RR (H : Heap) (p : Nat) (R : List Bool) (e : Int) (a : Option Addr) (n k : Nat) (B : List Int) (at_ : Nat) : Prop where
  row : H.get p = .row [.slice a n k, .int .i64 (at_ : Int), .int .i64 e] true
  lt : p < H.next
  s : By H a n k B
  isB : IsB B
  apart : ¬In1 a p
  len : at_ + R.length = 8 * n
  rest : (unpack B).drop at_ = R
  small : n ≤ 1099511627776
  err : e ≠ 0 → R = []
def RM (H : Heap) (p : Nat) (a : Option Addr) (R : List Bool) (e : Int) : Prop := ∃ n k B at_, RR H p R e a n k B at_
/-- What a call on a reader turns. -/
structure Fd (p : Nat) (a a' : Option Addr) (H H' : Heap) : Prop where
  chg : Chg (fun b => b = p) H H'
  arr : ∀ b, In1 a' b → In1 a b
section
variable {p : Nat} {a a2 a3 : Option Addr} {H H2 H3 : Heap} {R : List Bool} {e : Int} {S : Nat → Prop}
theorem Fd.refl (H : Heap) : Fd p a a H H := ⟨Chg.refl _, fun _ h => h⟩
theorem Fd.trans (h : Fd p a a2 H H2) (k : Fd p a2 a3 H2 H3) : Fd p a a3 H H3 := ⟨h.chg.trans k.chg fun _ _ h => h, fun b hb => h.arr b (k.arr b hb)⟩
theorem Fd.of (h : Keep H.next H H2) : Fd p a a H H2 := ⟨h.chg0, fun _ h => h⟩
theorem Fd.keep {base : Nat} (h : Fd p a a2 H H2) (hb : base ≤ H.next) (hp : base ≤ p) : Keep base H H2 := h.chg.keep hb fun b _ h => by have h : b = p := h; omega
theorem RM.lt (h : RM H p a R e) : p < H.next := by obtain ⟨n, k, B, at_, h⟩ := h; exact h.lt
theorem RM.chg (h : RM H p a R e) (c : Chg S H H2) (hp : ¬S p) (ha : ∀ b, In1 a b → ¬S b) : RM H2 p a R e := by
  obtain ⟨n, k, B, at_, h⟩ := h
  exact ⟨n, k, B, at_, ⟨by rw [c.get p h.lt hp]; exact h.row, Nat.lt_of_lt_of_le h.lt c.next, h.s.chg c ha, h.isB, h.apart, h.len, h.rest, h.small, h.err⟩⟩
theorem RM.new (h : RM H p a R e) (c : Keep H.next H H2) : RM H2 p a R e := h.chg (c.chg0 (S := fun _ => False)) (fun h => h) fun _ _ h => h
theorem RM.err (h : RM H p a R e) (he : e ≠ 0) : R = [] := by obtain ⟨n, k, B, at_, h⟩ := h; exact h.err he
theorem RM.small (h : RM H p a R e) : R.length ≤ 8796093022208 := by obtain ⟨n, k, B, at_, h⟩ := h; have := h.len; have := h.small; omega
end
theorem chgSet {H : Heap} {p : Nat} (o : AObj) : Chg (fun b => b = p) H (H.set p o) := Chg.set (S := fun b => b = p) _ rfl
namespace F42
theorem ok {H : Heap} {p : Nat} {L : List Bool} {a : Option Addr} {n k : Nat} (h : WR H p L a n k) (hL : L.length ≤ 1099511627776) : ∃ a' k' H', Cc 42 [.pointer (some ⟨p, 0, none⟩)] H = some (.slice a' (pack L).length k', H') ∧ OwnI .u8 H.next H' a' (pack L).length k' (pack L) ∧ Keep H.next H H' := by
  have hn := h.cnt
  have hl := pack_len L
  obtain ⟨a', k', H', c, o, g⟩ := OwnI.app (K := .u8) (base := H.next) 1 OwnI.nil h.own.sl (Nat.le_refl _) (by omega) (by omega)
  simp only [Nat.zero_add, List.nil_append] at c o
  rw [show n = (pack L).length by omega] at c o
  refine ⟨a', k', H', call ?_, o, g⟩
  rw [if_neg (by simp)]
  refine ⟨p, 0, rfl, _, _, _, rldc h.row 0, ?_⟩
  rw [show n = (pack L).length by omega]
  exact ⟨_, _, _, _, c, rfl⟩
theorem nil {H : Heap} : Cc 42 [.pointer none] H = some (.slice none 0 0, H) := call ((if_pos (show (none : Option Addr).isNone = true from rfl)).mpr rfl)
end F42
namespace F48
theorem ok {H : Heap} {a : Option Addr} {n k : Nat} {B : List Int} (hs : By H a n k B) (hb : IsB B) (hn : n ≤ 1099511627776) : ∃ p a' H', Cc 48 [.slice a n k] H = some (.pointer (some ⟨p, 0, none⟩), H') ∧ RM H' p a' (unpack B) 0 ∧ H.next ≤ p ∧ (∀ b, In1 a' b → H.next ≤ b) ∧ Keep H.next H H' := by
  obtain ⟨a', k', H1, c, o, g⟩ := OwnI.app (K := .u8) (base := H.next) 1 OwnI.nil hs (Nat.le_refl _) (by omega) (by omega)
  simp only [Nat.zero_add, List.nil_append] at c o
  have k2 : Keep H1.next H1 (H1.push (.row [.slice a' n k', .int .i64 0, .int .i64 0] true)) := Keep.push _ (Nat.le_refl _)
  have hl := hs.ln
  refine ⟨H1.next, a', _, call ⟨_, _, _, _, c, _, rfl, rfl⟩, ⟨n, k', B, 0, ⟨by simp, by simp, o.sl.keep k2, hb, fun h => by have := (o.lt h).2; omega, by rw [unpack_len]; omega, by simp, hn, fun h => absurd rfl h⟩⟩, g.next, fun b hb => (o.lt hb).1, g.trans (k2.weak g.next)⟩
end F48
namespace F80
theorem ok {H : Heap} {p : Nat} {a : Option Addr} {R : List Bool} {e : Int} (h : RM H p a R e) (x : Int) : ∃ H', Cc 80 [.pointer (some ⟨p, 0, none⟩), .int .i64 x] H = some (.tuple #[], H') ∧ RM H' p none [] x ∧ Fd p a none H H' := by
  obtain ⟨n, k, B, at_, h⟩ := h
  refine ⟨((H.set p (.row [.slice a n k, .int .i64 at_, .int .i64 x] true)).set p (.row [.slice none 0 0, .int .i64 at_, .int .i64 x] true)).set p (.row [.slice none 0 0, .int .i64 0, .int .i64 x] true), call ⟨p, 0, rfl, _, rstc h.row (i := 2) (by simp) _, _, rstc (vs := [.slice a n k, .int .i64 at_, .int .i64 x]) (by simp) (i := 0) (by simp) _, _, rstc (vs := [.slice none 0 0, .int .i64 at_, .int .i64 x]) (by simp) (i := 1) (by simp) _, rfl⟩,
    ⟨0, 0, [], 0, ⟨by simp, by simpa using h.lt, Ints.nil, by intro x hx; simp at hx, In1.none, rfl, rfl, by omega, fun _ => rfl⟩⟩, ⟨?_, fun b hb => absurd hb In1.none⟩⟩
  exact ((chgSet _).trans (chgSet _) fun _ _ h => h).trans (chgSet _) fun _ _ h => h
end F80
namespace F76
theorem ok {H : Heap} {p : Nat} {a : Option Addr} {R : List Bool} {e : Int} (h : RM H p a R e) : Cc 76 [.pointer (some ⟨p, 0, none⟩)] H = some (.int .i64 (R.length : Int), H) := by
  obtain ⟨n, k, B, at_, h⟩ := h
  have := h.len
  have := h.small
  refine call ?_
  rw [if_neg (by simp)]
  refine ⟨p, 0, rfl, _, _, _, rldc h.row 0, _, rldc h.row 1, ?_⟩
  rw [i64 (n := 8 * (n : Int)) (by omega) (by omega), i64 (by omega) (by omega), show 8 * (n : Int) - (at_ : Int) = (R.length : Int) by omega]
theorem nil {H : Heap} : Cc 76 [.pointer none] H = some (.int .i64 0, H) := call ((if_pos (show (none : Option Addr).isNone = true from rfl)).mpr rfl)
end F76
namespace F52
theorem ok {H : Heap} {p : Nat} {a : Option Addr} {R : List Bool} {e : Int} (h : RM H p a R e) : Cc 52 [.pointer (some ⟨p, 0, none⟩)] H = some (.int .i64 (if e = 0 ∧ R ≠ [] then 3 else e), H) := by
  have c := F76.ok h
  have h0 := h
  obtain ⟨n, k, B, at_, h⟩ := h
  refine call ?_
  rw [if_neg (by simp)]
  refine ⟨p, 0, rfl, _, rldc h.row 2, ?_⟩
  by_cases he : e = 0
  · rw [if_pos he]
    refine ⟨_, _, c, L0_step ?_⟩
    by_cases hR : R = []
    · subst hR
      rw [if_neg (by simp), if_neg (by simp)]
      exact ⟨_, rldc h.row 2, rfl⟩
    · have := List.length_pos_iff.2 hR
      rw [if_pos (by simp; omega), if_pos ⟨he, hR⟩]
  · rw [if_neg he, if_neg (fun h => he h.1)]
    refine L0_step ?_
    rw [if_neg (by simp)]
    exact ⟨_, rldc h.row 2, rfl⟩
theorem nil {H : Heap} : Cc 52 [.pointer none] H = some (.int .i64 1, H) := call ((if_pos (show (none : Option Addr).isNone = true from rfl)).mpr rfl)
end F52
namespace F73
theorem ok {H : Heap} {p : Nat} {a : Option Addr} {b : Bool} {R : List Bool} {e : Int} (h : RM H p a (b :: R) e) : ∃ H', Cc 73 [.pointer (some ⟨p, 0, none⟩)] H = some (.int .u64 (if b then 1 else 0), H') ∧ RM H' p a R e ∧ Fd p a a H H' := by
  have he : e = 0 := Classical.byContradiction fun he => by have := h.err he; cases this
  obtain ⟨n, k, B, at_, h⟩ := h
  have hl := h.len
  have hsm := h.small
  simp only [List.length_cons] at hl
  have hb := h.s.ln
  obtain ⟨c, o, rfl⟩ := h.s.at (by omega)
  have hat : (unpack B)[at_]? = some b := drop_get h.rest
  rw [unpack_get _ (by omega)] at hat
  have hB : B[at_ / 8]? = some (B.getD (at_ / 8) 0) := by simp [List.getD, List.getElem?_eq_getElem (show at_ / 8 < B.length by omega)]
  have e1 : IntKind.wrap .i64 (Int.tdiv (at_ : Int) 8) = ((at_ / 8 : Nat) : Int) := by
    rw [Int.tdiv_eq_ediv_of_nonneg (by omega), i64 (by omega) (by omega)]; omega
  have e2 : IntKind.wrap .i64 (7 - Int.tmod (at_ : Int) 8) = ((7 - at_ % 8 : Nat) : Int) := by rw [tmod8, i64 (by omega) (by omega)]; omega
  refine ⟨H.set p (.row [.slice (some ⟨c, o, none⟩) n k, .int .i64 ((at_ + 1 : Nat) : Int), .int .i64 e] true), call ⟨p, 0, rfl, _, _, _, rldc h.row 0, _, rldc h.row 1, c, o, rfl, ?_⟩, ⟨n, k, B, at_ + 1, ⟨by simp, by simpa using h.lt, h.s.chg (chgSet _) fun d hd e => h.apart ((show d = p from e) ▸ hd), h.isB, h.apart, by omega, drop_next h.rest, h.small, fun h => absurd he h⟩⟩, ⟨chgSet _, fun _ h => h⟩⟩
  rw [e1]
  refine ⟨by omega, by omega, _, Ints.get h.s hB, _, rldc h.row 1, ?_⟩
  rw [e2]
  refine ⟨by omega, _, rldc h.row 1, _, rstc h.row (i := 1) (by simp) _, ?_⟩
  rw [i64 (n := (at_ : Int) + 1) (by omega) (by omega), bit_int' (h.isB _ (List.mem_of_getElem? hB)) (by omega), Option.some.inj hat]
  rfl
end F73
namespace F72
variable {H : Heap} {p : Nat} {a : Option Addr} {R : List Bool} {e : Int}
theorem yes (h : RM H p a R 0) {m : Int} (hm : m ≤ R.length) : Cc 72 [.pointer (some ⟨p, 0, none⟩), .int .i64 m] H = some (.bool true, H) := by
  have c := F76.ok h
  obtain ⟨n, k, B, at_, h⟩ := h
  refine call ?_
  rw [if_neg (by simp)]
  refine ⟨p, 0, rfl, _, rldc h.row 2, L0_step ?_⟩
  rw [if_neg (by simp)]
  refine ⟨_, _, c, ?_⟩
  rw [if_neg (by omega)]
theorem short (h : RM H p a R 0) {m : Int} (hm : (R.length : Int) < m) : ∃ H', Cc 72 [.pointer (some ⟨p, 0, none⟩), .int .i64 m] H = some (.bool false, H') ∧ RM H' p none [] 2 ∧ Fd p a none H H' := by
  have c := F76.ok h
  obtain ⟨H', c2, r, f⟩ := F80.ok h 2
  obtain ⟨n, k, B, at_, h⟩ := h
  refine ⟨H', call ?_, r, f⟩
  rw [if_neg (by simp)]
  refine ⟨p, 0, rfl, _, rldc h.row 2, L0_step ?_⟩
  rw [if_neg (by simp)]
  refine ⟨_, _, c, ?_⟩
  rw [if_pos (by omega)]
  exact ⟨_, c2, rfl⟩
theorem bad (h : RM H p a R e) (he : e ≠ 0) (m : Int) : Cc 72 [.pointer (some ⟨p, 0, none⟩), .int .i64 m] H = some (.bool false, H) := by
  obtain ⟨n, k, B, at_, h⟩ := h
  refine call ?_
  rw [if_neg (by simp)]
  refine ⟨p, 0, rfl, _, rldc h.row 2, L0_step ?_⟩
  rw [if_pos (by simpa using he)]
theorem nil (m : Int) : Cc 72 [.pointer none, .int .i64 m] H = some (.bool false, H) := call ((if_pos (show (none : Option Addr).isNone = true from rfl)).mpr (L0_step (by rw [if_pos rfl])))
end F72
namespace F49
variable {H : Heap} {p : Nat} {a : Option Addr} {R : List Bool} {e : Int}
theorem l1 {w : Nat} (hw : w ≤ 64) : ∀ (d j : Nat) (l R : List Bool) (H : Heap), j + d = w → d ≤ R.length → RM H p a R 0 → ∃ H', L1 (some ⟨p, 0, none⟩) (nb (valOf l)) (w : Int) (j : Int) H (.int .u64 (nb (valOf (l ++ R.take d))), H') ∧ RM H' p a (R.drop d) 0 ∧ Fd p a a H H' := by
  intro d
  induction d with
  | zero =>
    intro j l R H hj hR h
    refine ⟨H, L1_step ?_, by simpa using h, Fd.refl _⟩
    rw [if_neg (by omega)]
    simp
  | succ d ih =>
    intro j l R H hj hR h
    cases R with
    | nil => simp at hR
    | cons b R =>
      simp only [List.length_cons] at hR
      obtain ⟨H1, c1, r1, f1⟩ := F73.ok h
      obtain ⟨H', z, r, f⟩ := ih (j + 1) (l ++ [b]) R H1 (by omega) (by omega) r1
      refine ⟨H', L1_step ?_, by simpa using r, f1.trans f⟩
      rw [if_pos (by omega)]
      refine ⟨_, _, c1, ?_⟩
      rw [val_step, ← valOf_concat, i64 (by omega) (by omega)]
      rw [List.append_assoc, List.singleton_append, ← List.take_succ_cons] at z
      exact_mod_cast z
theorem take (h : RM H p a R 0) {w : Nat} (hw : w ≤ 64) (hR : w ≤ R.length) : ∃ H', Cc 49 [.pointer (some ⟨p, 0, none⟩), .int .i64 (w : Int)] H = some (.int .u64 (nb (valOf (R.take w))), H') ∧ RM H' p a (R.drop w) 0 ∧ Fd p a a H H' := by
  obtain ⟨H', z, r, f⟩ := l1 hw w 0 [] R H (by omega) hR h
  refine ⟨H', call ⟨_, _, F71.ok _ _, ?_⟩, r, f⟩
  rw [if_pos (by simp; omega)]
  refine ⟨_, _, F72.yes h (by omega), L0_step ?_⟩
  rw [if_neg (by simp)]
  exact z
theorem short (h : RM H p a R 0) {w : Nat} (hw : w ≤ 64) (hR : R.length < w) : ∃ H', Cc 49 [.pointer (some ⟨p, 0, none⟩), .int .i64 (w : Int)] H = some (.int .u64 0, H') ∧ RM H' p none [] 2 ∧ Fd p a none H H' := by
  obtain ⟨H', c, r, f⟩ := F72.short h (m := (w : Int)) (by omega)
  refine ⟨H', call ⟨_, _, F71.ok _ _, ?_⟩, r, f⟩
  rw [if_pos (by simp; omega)]
  refine ⟨_, _, c, L0_step ?_⟩
  rw [if_pos (by simp)]
theorem bad (h : RM H p a R e) {w : Int} (hw : w < 0 ∨ 64 < w ∨ e ≠ 0) : Cc 49 [.pointer (some ⟨p, 0, none⟩), .int .i64 w] H = some (.int .u64 0, H) := by
  refine call ⟨_, _, F71.ok _ _, ?_⟩
  by_cases hg : 0 ≤ w ∧ w ≤ 64
  · rw [if_pos (by simpa using hg)]
    refine ⟨_, _, F72.bad h (by omega) _, L0_step ?_⟩
    rw [if_pos (by simp)]
  · rw [if_neg (by simpa using hg)]
    exact L0_step (by rw [if_pos rfl])
theorem nil (w : Int) : Cc 49 [.pointer none, .int .i64 w] H = some (.int .u64 0, H) := by
  refine call ⟨_, _, F71.ok _ _, ?_⟩
  by_cases hg : 0 ≤ w ∧ w ≤ 64
  · rw [if_pos (by simpa using hg)]
    refine ⟨_, _, F72.nil _, L0_step ?_⟩
    rw [if_pos (by simp)]
  · rw [if_neg (by simpa using hg)]
    exact L0_step (by rw [if_pos rfl])
end F49
namespace F77
theorem ok {H : Heap} {p : Nat} {a : Option Addr} {R : List Bool} {e : Int} (h : RM H p a R e) : ∃ n k, Cc 77 [.pointer (some ⟨p, 0, none⟩)] H = some (.slice a n k, H) ∧ R.length ≤ 8 * n ∧ n ≤ 1099511627776 := by
  obtain ⟨n, k, B, at_, h⟩ := h
  have := h.len
  refine ⟨n, k, call ?_, by omega, h.small⟩
  rw [if_neg (by simp)]
  exact ⟨p, 0, rfl, _, _, _, rldc h.row 0, rfl⟩
theorem nil {H : Heap} : Cc 77 [.pointer none] H = some (.slice none 0 0, H) := call ((if_pos (show (none : Option Addr).isNone = true from rfl)).mpr rfl)
end F77
/-- The bytes that bits make, by eight. -/
def bytesOf (R : List Bool) (n : Nat) : List Int := (List.range n).map fun j => IntKind.wrap .u8 (nb (valOf ((R.drop (8 * j)).take 8)))
theorem bytesOf_len (R : List Bool) (n : Nat) : (bytesOf R n).length = n := by simp [bytesOf]
theorem bytesOf_succ (R : List Bool) (n : Nat) : bytesOf R (n + 1) = bytesOf R n ++ [IntKind.wrap .u8 (nb (valOf ((R.drop (8 * n)).take 8)))] := by unfold bytesOf; rw [List.range_succ, List.map_append]; rfl
namespace F60
variable {H : Heap} {p : Nat} {a : Option Addr} {R : List Bool} {e : Int}
theorem l1 {G : Heap} {n : Nat} (hn : n ≤ 1099511627776) (hR : 8 * n ≤ R.length) (hp : p < G.next) (ha : ∀ b, In1 a b → b < G.next) : ∀ (d j : Nat) (H : Heap) (a5 : Option Addr) (k5 : Nat), j + d = n → RM H p a (R.drop (8 * j)) 0 → Chg (fun b => b = p) G H → OwnI .u8 G.next H a5 j k5 (bytesOf R j) →
    ∃ a' k' H', L1 (some ⟨p, 0, none⟩) a5 j k5 (n : Int) (j : Int) H (.slice a' n k', H') ∧ RM H' p a (R.drop (8 * n)) 0 ∧ OwnI .u8 G.next H' a' n k' (bytesOf R n) ∧ Chg (fun b => b = p) G H' := by
  intro d
  induction d with
  | zero =>
    intro j H a5 k5 hj h g o
    have e : j = n := by omega
    subst e
    refine ⟨a5, k5, H, L1_step ?_, h, o, g⟩
    rw [if_neg (by omega)]
  | succ d ih =>
    intro j H a5 k5 hj h g o
    obtain ⟨H1, c1, r1, f1⟩ := F49.take h (w := 8) (by omega) (by simp; omega)
    rw [List.drop_drop, show 8 * j + 8 = 8 * (j + 1) by omega] at r1
    have o1 : OwnI .u8 G.next H1 a5 j k5 (bytesOf R j) := o.chg f1.chg fun b hb e => by have := (o.lt hb).1; have e : b = p := e; omega
    have k2 : Keep H1.next H1 (H1.push (.row [.int .u8 (IntKind.wrap .u8 (nb (valOf ((R.drop (8 * j)).take 8))))] true)) := Keep.push _ (Nat.le_refl _)
    have on := (OwnI.new (K := .u8) H1 [IntKind.wrap .u8 (nb (valOf ((R.drop (8 * j)).take 8)))]).sl
    have gn : G.next ≤ H1.next := Nat.le_trans g.next f1.chg.next
    have o2 := o1.keep k2
    obtain ⟨a3, k3, H3, c3, o3, g3⟩ := OwnI.app (K := .u8) 1 o2 on (by simp; omega) (by simp; omega) (by simp; omega)
    have r3 : RM H3 p a (R.drop (8 * (j + 1))) 0 := (r1.new k2).chg g3.chg (by omega) fun b hb => by have := ha b hb; omega
    rw [← bytesOf_succ] at o3
    have kk : Keep G.next H1 H3 := (k2.weak gn).trans g3
    obtain ⟨a', k', H', z, r, o', g'⟩ := ih (j + 1) H3 a3 k3 (by omega) r3 ((g.trans f1.chg fun _ _ h => h).trans kk.chg fun b hb h => by have h : G.next ≤ b := h; omega) o3
    refine ⟨a', k', H', L1_step ?_, r, o', g'⟩
    rw [if_pos (by omega)]
    refine ⟨_, _, c1, _, rfl, _, _, _, _, c3, ?_⟩
    rw [i64 (by omega) (by omega)]
    exact_mod_cast z
theorem text (h : RM H p a R 0) {n : Nat} (hn : 0 < n) (hR : 8 * n ≤ R.length) : ∃ a' k' H', Cc 60 [.pointer (some ⟨p, 0, none⟩), .int .i64 (n : Int)] H = some (.slice a' n k', H') ∧ RM H' p a (R.drop (8 * n)) 0 ∧ OwnI .u8 H.next H' a' n k' (bytesOf R n) ∧ Chg (fun b => b = p) H H' := by
  obtain ⟨m, k, c, hm, hm2⟩ := F77.ok h
  have hp := h.lt
  have ha : ∀ b, In1 a b → b < H.next := by obtain ⟨n, k, B, at_, h⟩ := h; exact fun b hb => h.s.lt hb
  obtain ⟨a', k', H', z, r, o, g⟩ := l1 (n := n) (by omega) hR hp ha n 0 H none 0 (by omega) (by simpa using h) (Chg.refl _) OwnI.nil
  refine ⟨a', k', H', call ?_, r, o, g⟩
  rw [if_neg (by omega)]
  refine ⟨_, _, _, _, c, _, _, F72.yes h ?_, L0_step ?_⟩
  · rw [i64 (n := (m : Int) + 1) (by omega) (by omega)]
    have : imin (n : Int) ((m : Int) + 1) = (n : Int) := by unfold imin; split <;> omega
    rw [this, i64 (by omega) (by omega)]; omega
  · rw [if_neg (by simp)]
    exact z
theorem short (h : RM H p a R 0) {n : Int} (hn : 0 < n) (hR : (R.length : Int) < 8 * n) : ∃ H', Cc 60 [.pointer (some ⟨p, 0, none⟩), .int .i64 n] H = some (.slice none 0 0, H') ∧ RM H' p none [] 2 ∧ Fd p a none H H' := by
  obtain ⟨m, k, c, hm, hm2⟩ := F77.ok h
  have e1 : IntKind.wrap .i64 ((m : Int) + 1) = (m : Int) + 1 := i64 (by omega) (by omega)
  have e2 : 0 ≤ imin n ((m : Int) + 1) ∧ imin n ((m : Int) + 1) ≤ (m : Int) + 1 ∧ (R.length : Int) < imin n ((m : Int) + 1) * 8 := by unfold imin; split <;> omega
  have e3 : IntKind.wrap .i64 (imin n ((m : Int) + 1) * 8) = imin n ((m : Int) + 1) * 8 := i64 (by omega) (by omega)
  obtain ⟨H', c2, r, f⟩ := F72.short h (m := imin n ((m : Int) + 1) * 8) (by omega)
  refine ⟨H', call ?_, r, f⟩
  rw [if_neg (by omega)]
  refine ⟨_, _, _, _, c, ?_⟩
  rw [e1, e3]
  refine ⟨_, _, c2, L0_step ?_⟩
  rw [if_pos (by simp)]
theorem none (h : RM H p a R e) {n : Int} (hn : n ≤ 0 ∨ e ≠ 0) : Cc 60 [.pointer (some ⟨p, 0, Option.none⟩), .int .i64 n] H = some (.slice Option.none 0 0, H) := by
  obtain ⟨m, k, c, hm, hm2⟩ := F77.ok h
  refine call ?_
  by_cases h0 : n ≤ 0
  · rw [if_pos h0]
    exact L0_step (by rw [if_pos rfl])
  · rw [if_neg h0]
    refine ⟨_, _, _, _, c, _, _, F72.bad h (by omega) _, L0_step ?_⟩
    rw [if_pos (by simp)]
theorem nil (n : Int) : Cc 60 [.pointer Option.none, .int .i64 n] H = some (.slice Option.none 0 0, H) := by
  refine call ?_
  by_cases h0 : n ≤ 0
  · rw [if_pos h0]
    exact L0_step (by rw [if_pos rfl])
  · rw [if_neg h0]
    refine ⟨_, _, _, _, F77.nil, _, _, F72.nil _, L0_step ?_⟩
    rw [if_pos (by simp)]
end F60
theorem pack_fill (L : List Bool) : pack (fillUp L) = pack L := by
  have hl := fillUp_len L
  have hd : ((fillUp L).length + 7) / 8 = (L.length + 7) / 8 := by omega
  unfold pack
  rw [hd]
  refine List.map_congr_left fun j hj => ?_
  have hj : j < (L.length + 7) / 8 := by simpa using hj
  congr 1
  refine byteB_cong fun i hi => ?_
  unfold fillUp
  rw [List.getD, List.getD, List.getElem?_drop, List.getElem?_drop]
  by_cases h : 8 * j + i < L.length
  · rw [List.getElem?_append_left h]
  · rw [List.getElem?_append_right (by omega), List.getElem?_replicate, List.getElem?_eq_none (by omega)]
    split <;> rfl
/-- The bits of bytes that are put. -/
def textBits (xs : List Int) : List Bool := xs.flatMap fun c => bitsN (BitVec.ofInt 64 c) 8
theorem textBits_len (xs : List Int) : (textBits xs).length = 8 * xs.length := by
  unfold textBits
  induction xs with
  | nil => rfl
  | cons x xs ih => rw [List.flatMap_cons, List.length_append, ih, seg_len, List.length_cons]; omega
namespace F62
variable {p : Nat} {G : Heap}
theorem l0 {a6 : Option Addr} {n6 k6 : Nat} {xs : List Int} (hs : By G a6 n6 k6 xs) (hn6 : n6 ≤ 1099511627776) : ∀ (rest : List Int) (j : Nat) (L : List Bool) (a : Option Addr) (n k : Nat) (H : Heap), xs.drop j = rest → j + rest.length = n6 → WR H p L a n k → L.length + 8 * rest.length ≤ 1099511627776 → Keep G.next G H → G.next ≤ p → (∀ b, In1 a b → G.next ≤ b) →
    ∃ a' n' k' H', L0 (some ⟨p, 0, none⟩) a6 n6 k6 (n6 : Int) (j : Int) H (.tuple #[], H') ∧ WR H' p (L ++ textBits rest) a' n' k' ∧ Ft p a a' H H' := by
  intro rest
  induction rest with
  | nil =>
    intro j L a n k H hd hj h hL hk hp ha
    simp only [List.length_nil] at hj
    refine ⟨a, n, k, H, L0_step ?_, by simpa [textBits] using h, Ft.refl _⟩
    rw [if_neg (by omega)]
  | cons x rest ih =>
    intro j L a n k H hd hj h hL hk hp ha
    simp only [List.length_cons] at hj hL
    have hx := drop_get hd
    obtain ⟨b, o, rfl⟩ := hs.at (by omega)
    have ex : IntKind.wrap .u64 x = nb (BitVec.ofInt 64 x) := wrap_nb (k := .u64) rfl x
    obtain ⟨a1, n1, k1, H1, c1, w1, f1⟩ := F41.ok (v := BitVec.ofInt 64 x) h (width := 8) (by omega) (by omega)
    have hk1 := hk.trans (f1.keep hk.next hp ha)
    obtain ⟨a', n', k', H', z, w, f⟩ := ih (j + 1) _ a1 n1 k1 H1 (drop_next hd) (by omega) w1 (by rw [List.length_append, seg_len]; omega) hk1 hp (fun b hb => by
      rcases f1.arr b hb with e | e
      · exact ha b e
      · have := hk.next; omega)
    refine ⟨a', n', k', H', L0_step ?_, by rw [List.append_assoc] at w; exact w, f1.trans f⟩
    rw [if_pos (by omega)]
    refine ⟨b, o, rfl, by omega, by omega, _, Ints.get (hs.keep hk) hx, ?_⟩
    rw [ex, i64 (by omega) (by omega)]
    exact ⟨_, c1, by exact_mod_cast z⟩
theorem ok {H : Heap} {L : List Bool} {a a6 : Option Addr} {n k n6 k6 base : Nat} {xs : List Int} (hs : By G a6 n6 k6 xs) (hG : Keep G.next G H) (h : WR H p L a n k) (hn6 : n6 ≤ 1099511627776) (hL : L.length + 8 * n6 ≤ 1099511627776) (hp : G.next ≤ p) (ha : ∀ b, In1 a b → G.next ≤ b) :
    ∃ a' n' k' H', Cc 62 [.pointer (some ⟨p, 0, none⟩), .slice a6 n6 k6] H = some (.tuple #[], H') ∧ WR H' p (L ++ textBits xs) a' n' k' ∧ Ft p a a' H H' := by
  have hl := hs.ln
  obtain ⟨a', n', k', H', z, w, f⟩ := l0 hs hn6 xs 0 L a n k H rfl (by omega) h (by omega) hG hp ha
  exact ⟨a', n', k', H', call z, w, f⟩
theorem nil {H : Heap} {a6 : Option Addr} {n6 k6 : Nat} {xs : List Int} (hs : By H a6 n6 k6 xs) (hn6 : n6 ≤ 140737488355328) : Cc 62 [.pointer none, .slice a6 n6 k6] H = some (.tuple #[], H) := by
  have hl := hs.ln
  have key : ∀ (d j : Nat), j + d = n6 → L0 none a6 n6 k6 (n6 : Int) (j : Int) H (.tuple #[], H) := by
    intro d
    induction d with
    | zero => exact fun j hj => L0_step (by rw [if_neg (by omega)])
    | succ d ih =>
      intro j hj
      obtain ⟨b, o, rfl⟩ := hs.at (by omega)
      have hx : xs[j]? = some (xs.getD j 0) := by simp [List.getD, List.getElem?_eq_getElem (show j < xs.length by omega)]
      refine L0_step ?_
      rw [if_pos (by omega)]
      refine ⟨b, o, rfl, by omega, by omega, _, Ints.get hs hx, _, F41.nil, ?_⟩
      rw [i64 (by omega) (by omega)]
      exact_mod_cast ih (j + 1) (by omega)
  exact call (key n6 0 (by omega))
end F62
/-- What taking bytes comes to. -/
def textS (R : List Bool) (e n : Int) : List Int × List Bool × Int := if n ≤ 0 ∨ e ≠ 0 then ([], R, e) else if (R.length : Int) < 8 * n then ([], [], 2) else (bytesOf R n.toNat, R.drop (8 * n.toNat), e)
def takeS (R : List Bool) (e w : Int) : Int × List Bool × Int := if w < 0 ∨ 64 < w ∨ e ≠ 0 then (0, R, e) else if (R.length : Int) < w then (0, [], 2) else (nb (valOf (R.take w.toNat)), R.drop w.toNat, e)
def evenS (R : List Bool) (e : Int) : List Bool × Int := if ∀ b ∈ R.take (R.length % 8), b = false then (R.drop (R.length % 8), e) else ([], 3)
section
variable {H : Heap} {p : Nat} {a : Option Addr} {R : List Bool} {e : Int}
theorem F60.all (h : RM H p a R e) (n : Int) : ∃ a2 a' k' H', Cc 60 [.pointer (some ⟨p, 0, Option.none⟩), .int .i64 n] H = some (.slice a' (textS R e n).1.length k', H') ∧ OwnI .u8 H.next H' a' (textS R e n).1.length k' (textS R e n).1 ∧ RM H' p a2 (textS R e n).2.1 (textS R e n).2.2 ∧ Fd p a a2 H H' := by
  unfold textS
  by_cases h0 : n ≤ 0 ∨ e ≠ 0
  · rw [if_pos h0]
    exact ⟨a, Option.none, 0, H, F60.none h h0, OwnI.nil, h, Fd.refl _⟩
  · rw [if_neg h0]
    have he : e = 0 := by omega
    subst he
    by_cases hs : (R.length : Int) < 8 * n
    · rw [if_pos hs]
      obtain ⟨H', c, r, f⟩ := F60.short h (by omega) hs
      exact ⟨Option.none, Option.none, 0, H', c, OwnI.nil, r, f⟩
    · rw [if_neg hs]
      obtain ⟨a', k', H', c, r, o, g⟩ := F60.text h (n := n.toNat) (by omega) (by omega)
      rw [Int.toNat_of_nonneg (by omega)] at c
      refine ⟨a, a', k', H', ?_, ?_, r, ⟨g, fun _ h => h⟩⟩
      · rw [bytesOf_len]; exact c
      · rw [bytesOf_len]; exact o
theorem F49.all (h : RM H p a R e) (w : Int) : ∃ a2 H', Cc 49 [.pointer (some ⟨p, 0, none⟩), .int .i64 w] H = some (.int .u64 (takeS R e w).1, H') ∧ RM H' p a2 (takeS R e w).2.1 (takeS R e w).2.2 ∧ Fd p a a2 H H' := by
  unfold takeS
  by_cases h0 : w < 0 ∨ 64 < w ∨ e ≠ 0
  · rw [if_pos h0]
    exact ⟨a, H, F49.bad h h0, h, Fd.refl _⟩
  · rw [if_neg h0]
    have he : e = 0 := by omega
    subst he
    obtain ⟨m, rfl⟩ := Int.eq_ofNat_of_zero_le (show 0 ≤ w by omega)
    by_cases hs : (R.length : Int) < (m : Int)
    · rw [if_pos hs]
      obtain ⟨H', c, r, f⟩ := F49.short h (w := m) (by omega) (by omega)
      exact ⟨none, H', c, r, f⟩
    · rw [if_neg hs]
      obtain ⟨H', c, r, f⟩ := F49.take h (w := m) (by omega) (by omega)
      exact ⟨a, H', c, r, f⟩
end
end Go.X
