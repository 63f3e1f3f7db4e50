/- What the readers of bits come to; the bytes of a writer. -/
import Derived.Test.YtbfjajoekcbodaaXzEb
set_option linter.unusedVariables false
set_option linter.unusedSimpArgs false
namespace Go.X
open Go Go.RowKit Go.Proofs
/-- A reader: what is left, its error. -/
structure RR (H : Heap) (p : Nat) (R : List Bool) (e : Int) (a : Option Addr) (n k : Nat) (B : List Int) (at_ : Nat) : Prop where
  row : H.get p = .row [.slice a n k, .int .i64 (at_ : Int), .int .i64 e] true
  lt : p < H.next
  s : By H a n k B
  isB : IsB B
  apart : ¬In1 a p
  len : at_ + R.length = 8 * n
  rest : (unpack B).drop at_ = R
  small : n ≤ 1099511627776
  err : e ≠ 0 → R = []
def RM (H : Heap) (p : Nat) (a : Option Addr) (R : List Bool) (e : Int) : Prop := ∃ n k B at_, RR H p R e a n k B at_
/-- What a call on a reader turns. -/
structure Fd (p : Nat) (a a' : Option Addr) (H H' : Heap) : Prop where
  chg : Chg (fun b => b = p) H H'
  arr : ∀ b, In1 a' b → In1 a b
section
variable {p : Nat} {a a2 a3 : Option Addr} {H H2 H3 : Heap} {R : List Bool} {e : Int} {S : Nat → Prop}
theorem Fd.refl (H : Heap) : Fd p a a H H := ⟨Chg.refl _, fun _ h => h⟩
theorem Fd.trans (h : Fd p a a2 H H2) (k : Fd p a2 a3 H2 H3) : Fd p a a3 H H3 := ⟨h.chg.trans k.chg fun _ _ h => h, fun b hb => h.arr b (k.arr b hb)⟩
theorem Fd.of (h : Keep H.next H H2) : Fd p a a H H2 := ⟨h.chg0, fun _ h => h⟩
theorem Fd.keep {base : Nat} (h : Fd p a a2 H H2) (hb : base ≤ H.next) (hp : base ≤ p) : Keep base H H2 := h.chg.keep hb fun b _ h => by have h : b = p := h; omega
theorem RM.lt (h : RM H p a R e) : p < H.next := by obtain ⟨n, k, B, at_, h⟩ := h; exact h.lt
theorem RM.chg (h : RM H p a R e) (c : Chg S H H2) (hp : ¬S p) (ha : ∀ b, In1 a b → ¬S b) : RM H2 p a R e := by
  obtain ⟨n, k, B, at_, h⟩ := h
  exact ⟨n, k, B, at_, ⟨by rw [c.get p h.lt hp]; exact h.row, Nat.lt_of_lt_of_le h.lt c.next, h.s.chg c ha, h.isB, h.apart, h.len, h.rest, h.small, h.err⟩⟩
theorem RM.new (h : RM H p a R e) (c : Keep H.next H H2) : RM H2 p a R e := h.chg (c.chg0 (S := fun _ => False)) (fun h => h) fun _ _ h => h
theorem RM.err (h : RM H p a R e) (he : e ≠ 0) : R = [] := by obtain ⟨n, k, B, at_, h⟩ := h; exact h.err he
theorem RM.small (h : RM H p a R e) : R.length ≤ 8796093022208 := by obtain ⟨n, k, B, at_, h⟩ := h; have := h.len; have := h.small; omega
end
theorem chgSet {H : Heap} {p : Nat} (o : AObj) : Chg (fun b => b = p) H (H.set p o) := Chg.set (S := fun b => b = p) _ rfl
namespace F42
theorem ok {H : Heap} {p : Nat} {L : List Bool} {a : Option Addr} {n k : Nat} (h : WR H p L a n k) (hL : L.length ≤ 1099511627776) : ∃ a' k' H', Cc 42 [.pointer (some ⟨p, 0, none⟩)] H = some (.slice a' (pack L).length k', H') ∧ OwnI .u8 H.next H' a' (pack L).length k' (pack L) ∧ Keep H.next H H' := by
  have hn := h.cnt
  have hl := pack_len L
  obtain ⟨a', k', H', c, o, g⟩ := OwnI.app (K := .u8) (base := H.next) 1 OwnI.nil h.own.sl (Nat.le_refl _) (by omega) (by omega)
  simp only [Nat.zero_add, List.nil_append] at c o
  rw [show n = (pack L).length by omega] at c o
  refine ⟨a', k', H', call ?_, o, g⟩
  rw [if_neg (by simp)]
  refine ⟨p, 0, rfl, _, _, _, rldc h.row 0, ?_⟩
  rw [show n = (pack L).length by omega]
  exact ⟨_, _, _, _, c, rfl⟩
theorem nil {H : Heap} : Cc 42 [.pointer none] H = some (.slice none 0 0, H) := call ((if_pos (show (none : Option Addr).isNone = true from rfl)).mpr rfl)
end F42
namespace F48
theorem ok {H : Heap} {a : Option Addr} {n k : Nat} {B : List Int} (hs : By H a n k B) (hb : IsB B) (hn : n ≤ 1099511627776) : ∃ p a' H', Cc 48 [.slice a n k] H = some (.pointer (some ⟨p, 0, none⟩), H') ∧ RM H' p a' (unpack B) 0 ∧ H.next ≤ p ∧ (∀ b, In1 a' b → H.next ≤ b) ∧ Keep H.next H H' := by
  obtain ⟨a', k', H1, c, o, g⟩ := OwnI.app (K := .u8) (base := H.next) 1 OwnI.nil hs (Nat.le_refl _) (by omega) (by omega)
  simp only [Nat.zero_add, List.nil_append] at c o
  have k2 : Keep H1.next H1 (H1.push (.row [.slice a' n k', .int .i64 0, .int .i64 0] true)) := Keep.push _ (Nat.le_refl _)
  have hl := hs.ln
  refine ⟨H1.next, a', _, call ⟨_, _, _, _, c, _, rfl, rfl⟩, ⟨n, k', B, 0, ⟨by simp, by simp, o.sl.keep k2, hb, fun h => by have := (o.lt h).2; omega, by rw [unpack_len]; omega, by simp, hn, fun h => absurd rfl h⟩⟩, g.next, fun b hb => (o.lt hb).1, g.trans (k2.weak g.next)⟩
end F48
namespace F80
theorem ok {H : Heap} {p : Nat} {a : Option Addr} {R : List Bool} {e : Int} (h : RM H p a R e) (x : Int) : ∃ H', Cc 80 [.pointer (some ⟨p, 0, none⟩), .int .i64 x] H = some (.tuple #[], H') ∧ RM H' p none [] x ∧ Fd p a none H H' := by
  obtain ⟨n, k, B, at_, h⟩ := h
  refine ⟨((H.set p (.row [.slice a n k, .int .i64 at_, .int .i64 x] true)).set p (.row [.slice none 0 0, .int .i64 at_, .int .i64 x] true)).set p (.row [.slice none 0 0, .int .i64 0, .int .i64 x] true), call ⟨p, 0, rfl, _, rstc h.row (i := 2) (by simp) _, _, rstc (vs := [.slice a n k, .int .i64 at_, .int .i64 x]) (by simp) (i := 0) (by simp) _, _, rstc (vs := [.slice none 0 0, .int .i64 at_, .int .i64 x]) (by simp) (i := 1) (by simp) _, rfl⟩,
    ⟨0, 0, [], 0, ⟨by simp, by simpa using h.lt, Ints.nil, by intro x hx; simp at hx, In1.none, rfl, rfl, by omega, fun _ => rfl⟩⟩, ⟨?_, fun b hb => absurd hb In1.none⟩⟩
  exact ((chgSet _).trans (chgSet _) fun _ _ h => h).trans (chgSet _) fun _ _ h => h
end F80
namespace F76
theorem ok {H : Heap} {p : Nat} {a : Option Addr} {R : List Bool} {e : Int} (h : RM H p a R e) : Cc 76 [.pointer (some ⟨p, 0, none⟩)] H = some (.int .i64 (R.length : Int), H) := by
  obtain ⟨n, k, B, at_, h⟩ := h
  have := h.len
  have := h.small
  refine call ?_
  rw [if_neg (by simp)]
  refine ⟨p, 0, rfl, _, _, _, rldc h.row 0, _, rldc h.row 1, ?_⟩
  rw [i64 (n := 8 * (n : Int)) (by omega) (by omega), i64 (by omega) (by omega), show 8 * (n : Int) - (at_ : Int) = (R.length : Int) by omega]
theorem nil {H : Heap} : Cc 76 [.pointer none] H = some (.int .i64 0, H) := call ((if_pos (show (none : Option Addr).isNone = true from rfl)).mpr rfl)
end F76
namespace F52
theorem ok {H : Heap} {p : Nat} {a : Option Addr} {R : List Bool} {e : Int} (h : RM H p a R e) : Cc 52 [.pointer (some ⟨p, 0, none⟩)] H = some (.int .i64 (if e = 0 ∧ R ≠ [] then 3 else e), H) := by
  have c := F76.ok h
  have h0 := h
  obtain ⟨n, k, B, at_, h⟩ := h
  refine call ?_
  rw [if_neg (by simp)]
  refine ⟨p, 0, rfl, _, rldc h.row 2, ?_⟩
  by_cases he : e = 0
  · rw [if_pos he]
    refine ⟨_, _, c, L0_step ?_⟩
    by_cases hR : R = []
    · subst hR
      rw [if_neg (by simp), if_neg (by simp)]
      exact ⟨_, rldc h.row 2, rfl⟩
    · have := List.length_pos_iff.2 hR
      rw [if_pos (by simp; omega), if_pos ⟨he, hR⟩]
  · rw [if_neg he, if_neg (fun h => he h.1)]
    refine L0_step ?_
    rw [if_neg (by simp)]
    exact ⟨_, rldc h.row 2, rfl⟩
theorem nil {H : Heap} : Cc 52 [.pointer none] H = some (.int .i64 1, H) := call ((if_pos (show (none : Option Addr).isNone = true from rfl)).mpr rfl)
end F52
namespace F73
theorem ok {H : Heap} {p : Nat} {a : Option Addr} {b : Bool} {R : List Bool} {e : Int} (h : RM H p a (b :: R) e) : ∃ H', Cc 73 [.pointer (some ⟨p, 0, none⟩)] H = some (.int .u64 (if b then 1 else 0), H') ∧ RM H' p a R e ∧ Fd p a a H H' := by
  have he : e = 0 := Classical.byContradiction fun he => by have := h.err he; cases this
  obtain ⟨n, k, B, at_, h⟩ := h
  have hl := h.len
  have hsm := h.small
  simp only [List.length_cons] at hl
  have hb := h.s.ln
  obtain ⟨c, o, rfl⟩ := h.s.at (by omega)
  have hat : (unpack B)[at_]? = some b := drop_get h.rest
  rw [unpack_get _ (by omega)] at hat
  have hB : B[at_ / 8]? = some (B.getD (at_ / 8) 0) := by simp [List.getD, List.getElem?_eq_getElem (show at_ / 8 < B.length by omega)]
  have e1 : IntKind.wrap .i64 (Int.tdiv (at_ : Int) 8) = ((at_ / 8 : Nat) : Int) := by
    rw [Int.tdiv_eq_ediv_of_nonneg (by omega), i64 (by omega) (by omega)]; omega
  have e2 : IntKind.wrap .i64 (7 - Int.tmod (at_ : Int) 8) = ((7 - at_ % 8 : Nat) : Int) := by rw [tmod8, i64 (by omega) (by omega)]; omega
  refine ⟨H.set p (.row [.slice (some ⟨c, o, none⟩) n k, .int .i64 ((at_ + 1 : Nat) : Int), .int .i64 e] true), call ⟨p, 0, rfl, _, _, _, rldc h.row 0, _, rldc h.row 1, c, o, rfl, ?_⟩, ⟨n, k, B, at_ + 1, ⟨by simp, by simpa using h.lt, h.s.chg (chgSet _) fun d hd e => h.apart ((show d = p from e) ▸ hd), h.isB, h.apart, by omega, drop_next h.rest, h.small, fun h => absurd he h⟩⟩, ⟨chgSet _, fun _ h => h⟩⟩
  rw [e1]
  refine ⟨by omega, by omega, _, Ints.get h.s hB, _, rldc h.row 1, ?_⟩
  rw [e2]
  refine ⟨by omega, _, rldc h.row 1, _, rstc h.row (i := 1) (by simp) _, ?_⟩
  rw [i64 (n := (at_ : Int) + 1) (by omega) (by omega), bit_int' (h.isB _ (List.mem_of_getElem? hB)) (by omega), Option.some.inj hat]
  rfl
end F73
end Go.X
