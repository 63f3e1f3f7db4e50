/- What slices read, over heaps; what the words of the walks come to. -/
import Derived.Test.YtomibdncbioijaaXzOps
import Derived.IntWalk
set_option linter.unusedVariables false
set_option linter.unusedSimpArgs false
namespace Go.X
open Go Go.RowKit

/-- Below a base nothing is changed. -/
structure Keep (base : Nat) (H H' : Heap) : Prop where
  next : H.next ≤ H'.next
  get : ∀ b, b < base → H'.get b = H.get b
theorem Keep.refl (base : Nat) (H : Heap) : Keep base H H := ⟨Nat.le_refl _, fun _ _ => rfl⟩
theorem Keep.trans {base : Nat} {H H1 H2 : Heap} (h : Keep base H H1) (k : Keep base H1 H2) : Keep base H H2 :=
  ⟨Nat.le_trans h.next k.next, fun b hb => (k.get b hb).trans (h.get b hb)⟩
theorem Keep.weak {base base' : Nat} {H H' : Heap} (h : Keep base H H') (hb : base' ≤ base) : Keep base' H H' := ⟨h.next, fun b hb' => h.get b (by omega)⟩
theorem Keep.push {H : Heap} (o : AObj) {base : Nat} (h : base ≤ H.next) : Keep base H (H.push o) :=
  ⟨by simp, fun b hb => Heap.get_push_ne _ _ _ (by omega)⟩
theorem Keep.set {H : Heap} {b : Nat} (o : AObj) {base : Nat} (h : base ≤ b) : Keep base H (H.set b o) :=
  ⟨by simp, fun c hc => Heap.get_set_ne _ _ _ _ (by omega)⟩

/-- A row's cells from a place on. -/
def Seg (H : Heap) (b o : Nat) (vs : List Value) : Prop := ∃ cs own, H.get b = .row cs own ∧ o + vs.length ≤ cs.length ∧ (cs.drop o).take vs.length = vs
theorem Seg.ldc {H : Heap} {b o : Nat} {vs : List Value} (h : Seg H b o vs) {i : Nat} {v : Value} (hv : vs[i]? = some v) : ldc H b (o + i) = some v := by
  obtain ⟨cs, own, hg, hl, ht⟩ := h
  unfold X.ldc
  rw [hg]
  simp only
  have hi := (List.getElem?_eq_some_iff.1 hv).1
  have : ((cs.drop o).take vs.length)[i]? = some v := by rw [ht]; exact hv
  rw [List.getElem?_take, if_pos hi, List.getElem?_drop] at this
  exact this
theorem Seg.keep {H H' : Heap} {b o : Nat} {vs : List Value} (h : Seg H b o vs) {base : Nat} (k : Keep base H H') (hb : b < base) : Seg H' b o vs := by
  obtain ⟨cs, own, hg, hl, ht⟩ := h
  exact ⟨cs, own, by rw [k.get b hb]; exact hg, hl, ht⟩
theorem Seg.sub {H : Heap} {b o : Nat} {vs : List Value} (h : Seg H b o vs) (i n : Nat) (hn : i + n ≤ vs.length) : Seg H b (o + i) ((vs.drop i).take n) := by
  obtain ⟨cs, own, hg, hl, ht⟩ := h
  have hlen : ((vs.drop i).take n).length = n := by simp; omega
  refine ⟨cs, own, hg, by omega, ?_⟩
  rw [hlen]
  conv => rhs; rw [← ht]
  rw [List.drop_take, List.take_take, List.drop_drop]
  congr 1
  omega

/-- What a slice reads: so many elements of so many cells. -/
structure Sl (H : Heap) (z : Nat) (a : Option Addr) (n k : Nat) (vs : List Value) : Prop where
  len : vs.length = n * z
  at_ : (a = none ∧ n = 0 ∧ k = 0) ∨ (a = some ⟨0, 0, some 0⟩ ∧ n = 0 ∧ k = 0) ∨ ∃ b o, a = some ⟨b, o, none⟩ ∧ k = UNK z ∧ b < H.next ∧ Seg H b o vs
theorem Sl.keep {H H' : Heap} {z n k : Nat} {a : Option Addr} {vs : List Value} (h : Sl H z a n k vs) (hk : Keep H.next H H') : Sl H' z a n k vs := by
  obtain ⟨hl, h | h | ⟨b, o, h1, h2, h3, h4⟩⟩ := h
  · exact ⟨hl, .inl h⟩
  · exact ⟨hl, .inr (.inl h)⟩
  · exact ⟨hl, .inr (.inr ⟨b, o, h1, h2, Nat.lt_of_lt_of_le h3 hk.next, h4.keep hk h3⟩)⟩
theorem Sl.pos {H : Heap} {z n k : Nat} {a : Option Addr} {vs : List Value} (h : Sl H z a n k vs) (hn : 0 < n) : ∃ b o, a = some ⟨b, o, none⟩ ∧ k = UNK z ∧ b < H.next ∧ Seg H b o vs := by
  obtain ⟨hl, ⟨_, h, _⟩ | ⟨_, h, _⟩ | h⟩ := h
  · omega
  · omega
  · exact h
theorem Sl.at {H : Heap} {z n k : Nat} {a : Option Addr} {vs : List Value} (h : Sl H z a n k vs) (hn : 0 < n) : ∃ b o, a = some ⟨b, o, none⟩ := by
  obtain ⟨b, o, h, _⟩ := h.pos hn; exact ⟨b, o, h⟩
theorem Sl.seg {H : Heap} {z n k b o : Nat} {vs : List Value} (h : Sl H z (some ⟨b, o, none⟩) n k vs) : Seg H b o vs := by
  obtain ⟨hl, ⟨h, _⟩ | ⟨h, _⟩ | ⟨b', o', h, _, _, hs⟩⟩ := h
  · cases h
  · cases h
  · cases h; exact hs
theorem Sl.ld1 {H : Heap} {n k b o : Nat} {vs : List Value} (h : Sl H 1 (some ⟨b, o, none⟩) n k vs) {i : Nat} {v : Value} (hv : vs[i]? = some v) : ldc H b (o + i * 1) = some v := by
  rw [Nat.mul_one]; exact h.seg.ldc hv

/-- A part of a slice. -/
theorem Sl.part {H : Heap} {z n k : Nat} {a : Option Addr} {vs : List Value} (h : Sl H z a n k vs) (lo hi : Option Int) (l r : Nat) (hl : lo = none ∧ l = 0 ∨ lo = some (l : Int)) (hr : hi = none ∧ r = n ∨ hi = some (r : Int)) (hlr : l ≤ r) (hrn : r ≤ n) :
    ∃ a' k', psl z a n k lo hi none = some (a', r - l, k') ∧ Sl H z a' (r - l) k' ((vs.drop (l * z)).take ((r - l) * z)) := by
  have bl : boundOf 0 (lo.map (Value.int .i64)) = some l := by
    rcases hl with ⟨rfl, rfl⟩ | rfl
    · rfl
    · simp [boundOf]
  have br : ∀ m, m = n → boundOf m (hi.map (Value.int .i64)) = some r := by
    intro m hm
    rcases hr with ⟨rfl, rfl⟩ | rfl
    · subst hm; rfl
    · simp [boundOf]
  have hlen : ((vs.drop (l * z)).take ((r - l) * z)).length = (r - l) * z := by
    rw [List.length_take, List.length_drop, h.len, Nat.min_eq_left]
    rw [← Nat.sub_mul]
    exact Nat.mul_le_mul_right z (by omega)
  unfold psl xslice
  obtain ⟨h0, ⟨rfl, rfl, rfl⟩ | ⟨rfl, rfl, rfl⟩ | ⟨b, o, rfl, rfl, hb, hs⟩⟩ := h
  · have e1 : l = 0 := by omega
    have e2 : r = 0 := by omega
    subst e1; subst e2
    refine ⟨none, 0, ?_, ⟨by simp, .inl ⟨rfl, rfl, rfl⟩⟩⟩
    show (xsliceNo (.slice none 0 0) _ _ _).bind asSl = _
    unfold xsliceNo
    rw [bl, br 0 rfl]
    rfl
  · have e1 : l = 0 := by omega
    have e2 : r = 0 := by omega
    subst e1; subst e2
    refine ⟨some ⟨0, 0, some 0⟩, 0, ?_, ⟨by simp, .inr (.inl ⟨rfl, rfl, rfl⟩)⟩⟩
    show (xsliceNo (.slice (some ⟨0, 0, some 0⟩) 0 0) _ _ _).bind asSl = _
    unfold xsliceNo
    rw [bl, br 0 rfl]
    rfl
  · simp only [xsliceAt, Option.map_none, bl, br n rfl]
    rw [if_pos ⟨hlr, hrn⟩]
    by_cases h1 : l = 0
    · subst h1
      refine ⟨some ⟨b, o, none⟩, UNK z, by simp, ⟨hlen, .inr (.inr ⟨b, o, rfl, rfl, hb, ?_⟩)⟩⟩
      have := hs.sub 0 (r * z) (by rw [h0]; simpa using Nat.mul_le_mul_right z hrn)
      simpa using this
    · rw [if_neg h1]
      by_cases h2 : l < n
      · rw [if_pos h2, if_neg (by simp)]
        refine ⟨some ⟨b, o + l * z, none⟩, UNK z, ?_, ⟨hlen, .inr (.inr ⟨b, o + l * z, rfl, rfl, hb, ?_⟩)⟩⟩
        · have : capSub (UNK z) l = UNK z := by unfold capSub; rw [if_pos (by unfold UNK; omega)]
          simp [this]
        · refine hs.sub _ _ ?_
          rw [h0, ← Nat.add_mul]
          exact Nat.mul_le_mul_right z (by omega)
      · rw [if_neg h2]
        have e1 : r = l := by omega
        subst e1
        refine ⟨some ⟨0, 0, some 0⟩, 0, by simp [EMPTY], ⟨hlen, .inr (.inl ⟨rfl, by omega, rfl⟩)⟩⟩

/-- A slice whose row is the run's own, above a base. -/
structure Own (base : Nat) (H : Heap) (z : Nat) (a : Option Addr) (n k : Nat) (vs : List Value) : Prop where
  len : vs.length = n * z
  at_ : (a = none ∧ n = 0 ∧ k = 0) ∨ ∃ b o cs, a = some ⟨b, o, none⟩ ∧ k = UNK z ∧ base ≤ b ∧ b < H.next ∧ H.get b = .row cs true ∧ o + n * z ≤ cs.length ∧ (cs.drop o).take (n * z) = vs
theorem Own.sl {base : Nat} {H : Heap} {z n k : Nat} {a : Option Addr} {vs : List Value} (h : Own base H z a n k vs) : Sl H z a n k vs := by
  obtain ⟨hl, h | ⟨b, o, cs, h1, h2, h3, h4, h5, h6, h7⟩⟩ := h
  · exact ⟨hl, .inl h⟩
  · exact ⟨hl, .inr (.inr ⟨b, o, h1, h2, h4, cs, true, h5, by rw [hl]; exact h6, by rw [hl]; exact h7⟩)⟩
theorem Own.keep {base : Nat} {H H' : Heap} {z n k : Nat} {a : Option Addr} {vs : List Value} (h : Own base H z a n k vs) (hk : Keep H.next H H') : Own base H' z a n k vs := by
  obtain ⟨hl, h | ⟨b, o, cs, h1, h2, h3, h4, h5, h6, h7⟩⟩ := h
  · exact ⟨hl, .inl h⟩
  · exact ⟨hl, .inr ⟨b, o, cs, h1, h2, h3, Nat.lt_of_lt_of_le h4 hk.next, by rw [hk.get b h4]; exact h5, h6, h7⟩⟩
theorem Own.weak {base base' : Nat} {H : Heap} {z n k : Nat} {a : Option Addr} {vs : List Value} (h : Own base H z a n k vs) (hb : base' ≤ base) : Own base' H z a n k vs := by
  obtain ⟨hl, h | ⟨b, o, cs, h1, h2, h3, h⟩⟩ := h
  · exact ⟨hl, .inl h⟩
  · exact ⟨hl, .inr ⟨b, o, cs, h1, h2, by omega, h⟩⟩
theorem Own.new {H : Heap} {z n : Nat} {vs : List Value} (hl : vs.length = n * z) : Own H.next (H.push (.row vs true)) z (some ⟨H.next, 0, none⟩) n (UNK z) vs :=
  ⟨hl, .inr ⟨H.next, 0, vs, rfl, rfl, Nat.le_refl _, by simp, by simp, by omega, by rw [List.drop_zero, ← hl, List.take_length]⟩⟩

theorem setMany_eq (vs : List Value) : ∀ (cs : List Value) (o : Nat), o + vs.length ≤ cs.length → setMany cs o vs = cs.take o ++ vs ++ cs.drop (o + vs.length) := by
  induction vs with
  | nil => intro cs o h; simp [setMany]
  | cons v vs ih =>
    intro cs o h
    simp only [List.length_cons] at h
    simp only [setMany]
    rw [ih _ _ (by simp; omega)]
    have e1 : (cs.set o v).take (o + 1) = cs.take o ++ [v] := by
      rw [List.set_eq_take_append_cons_drop, if_pos (by omega), List.take_append, List.take_of_length_le (by simp; omega)]
      congr 1
      rw [List.length_take, Nat.min_eq_left (by omega), Nat.add_sub_cancel_left]
      rfl
    have e2 : (cs.set o v).drop (o + 1 + vs.length) = cs.drop (o + 1 + vs.length) := by rw [List.drop_set_of_lt (by omega)]
    rw [e1, e2]
    simp [Nat.add_assoc, Nat.add_comm 1]
theorem xsrc_sl {H : Heap} {z n k : Nat} {a : Option Addr} {vs : List Value} (h : Sl H z a n k vs) (hz : 0 < z) : xsrc H z (.slice a n k) = some (n, vs) := by
  unfold xsrc
  obtain ⟨hl, ⟨rfl, rfl, rfl⟩ | ⟨rfl, rfl, rfl⟩ | ⟨b, o, rfl, rfl, hb, cs, own, hg, hle, ht⟩⟩ := h
  · have : vs = [] := List.eq_nil_of_length_eq_zero (by omega)
    subst this; rfl
  · have : vs = [] := List.eq_nil_of_length_eq_zero (by omega)
    subst this; rfl
  · simp only [hg]
    rw [← hl, if_pos hle, ht]

/-- Appending to a slice of one's own. -/
theorem Own.append {base : Nat} {H : Heap} {z by_ n k n2 k2 : Nat} {a a2 : Option Addr} {vs ws : List Value} (h : Own base H z a n k vs) (h2 : Sl H z a2 n2 k2 ws) (hz : 0 < z) (hb : base ≤ H.next) (hs : (n + n2) * by_ ≤ 140737488355328) (hs2 : n + n2 ≤ 140737488355328) :
    ∃ a' k' H', papp H z by_ a n k a2 n2 k2 = some ((a', n + n2, k'), H') ∧ Own base H' z a' (n + n2) k' (vs ++ ws) ∧ Keep base H H' := by
  have hlen : (vs ++ ws).length = (n + n2) * z := by rw [List.length_append, h.len, h2.len, Nat.add_mul]
  unfold papp xappend
  rw [xsrc_sl h2 hz]
  simp only
  by_cases h0 : n2 = 0
  · subst h0
    have : ws = [] := List.eq_nil_of_length_eq_zero (by rw [h2.len]; simp)
    subst this
    rw [if_pos rfl]
    exact ⟨a, k, H, rfl, by simpa using h, Keep.refl _ _⟩
  · rw [if_neg h0]
    obtain ⟨hl, ⟨rfl, rfl, rfl⟩ | ⟨b, o, cs, rfl, rfl, h3, h4, h5, h6, h7⟩⟩ := h
    · have : vs = [] := List.eq_nil_of_length_eq_zero (by omega)
      subst this
      simp only [Nat.zero_add, true_and] at hs hs2 ⊢
      rw [if_pos ⟨hs, hs2⟩]
      have := (Own.new (H := H) (z := z) (n := n2) (vs := ws) h2.len).weak hb
      exact ⟨_, _, _, rfl, by simpa using this, Keep.push _ hb⟩
    · simp only [h5]
      rw [if_pos ⟨h6, hs, hs2, hz⟩, if_neg (by unfold UNK; omega), if_pos (by first | exact ⟨rfl, trivial⟩ | exact ⟨rfl, rfl⟩ | trivial)]
      by_cases hroom : o + (n + n2) * z ≤ cs.length
      · rw [if_pos hroom]
        refine ⟨_, _, _, rfl, ⟨hlen, .inr ⟨b, o, setMany cs (o + n * z) ws, rfl, rfl, h3, by simpa using h4, Heap.get_set_same _ _ _, ?_, ?_⟩⟩, Keep.set _ h3⟩
        · rw [setMany_length]; exact hroom
        · have hw : o + n * z + ws.length ≤ cs.length := by rw [h2.len]; rw [Nat.add_mul] at hroom; omega
          rw [setMany_eq ws cs (o + n * z) hw]
          have e1 : (cs.take (o + n * z) ++ ws ++ cs.drop (o + n * z + ws.length)).drop o = vs ++ ws ++ cs.drop (o + n * z + ws.length) := by
            rw [List.append_assoc, List.drop_append_of_le_length (by simp; omega), List.drop_take, Nat.add_sub_cancel_left, h7, List.append_assoc]
          rw [e1, ← hlen, List.take_left]
      · rw [if_neg hroom]
        have := (Own.new (H := H.set b .dead) (z := z) (n := n + n2) (vs := vs ++ ws) hlen).weak (base' := base) (by simpa using hb)
        refine ⟨_, _, _, rfl, by rw [h7]; exact this, (Keep.set _ h3).trans (Keep.push _ (by simpa using hb))⟩

/-- Writing one element of one cell. -/
theorem Own.put {base : Nat} {H : Heap} {n k b o : Nat} {vs : List Value} (h : Own base H 1 (some ⟨b, o, none⟩) n k vs) {i : Nat} (hi : i < n) (v : Value) :
    ∃ H', stc H b (o + i * 1) [v] = some H' ∧ Own base H' 1 (some ⟨b, o, none⟩) n k (vs.set i v) ∧ Keep base H H' ∧ H'.next = H.next := by
  obtain ⟨hl, ⟨h0, _⟩ | ⟨b', o', cs, h1, h2, h3, h4, h5, h6, h7⟩⟩ := h
  · cases h0
  · cases h1
    rw [Nat.mul_one] at *
    unfold stc
    rw [h5]
    simp only [List.length_cons, List.length_nil]
    rw [if_pos (by omega)]
    refine ⟨_, rfl, ⟨by simpa using hl, .inr ⟨b, o, setMany cs (o + i) [v], rfl, h2, h3, by simpa using h4, Heap.get_set_same _ _ _, by rw [setMany_length]; omega, ?_⟩⟩, Keep.set _ h3, rfl⟩
    simp only [setMany]
    rw [Nat.mul_one, List.drop_set, if_neg (by omega), Nat.add_sub_cancel_left, List.take_set, h7]
theorem zerosL1 (v : Value) (n : Nat) : zerosL [v] n = List.replicate n v := by
  unfold zerosL
  induction n with
  | zero => rfl
  | succ n ih => rw [List.replicate_succ, List.flatten_cons, ih, List.replicate_succ]; rfl
theorem pmk_eq {by_ n : Nat} (h : n * by_ ≤ 140737488355328) (h2 : n ≤ 1000000000000) : pmk by_ (n : Int) (n : Int) = some n := by
  unfold pmk
  rw [if_pos ⟨by omega, rfl, by rw [← Int.natCast_mul]; omega, by omega⟩]
  rfl
/-- The text of a slice of bytes. -/
theorem Sl.str {H : Heap} {a : Option Addr} {n k : Nat} {xs : List Int} (h : Sl H 1 a n k (xs.map (Value.int .u8))) : pstrb H a n = some (strOfNums xs) := by
  unfold pstrb
  obtain ⟨hl, ⟨rfl, rfl, rfl⟩ | ⟨rfl, rfl, rfl⟩ | ⟨b, o, rfl, rfl, hb, cs, own, hg, hle, ht⟩⟩ := h
  · have : xs = [] := List.eq_nil_of_length_eq_zero (by simpa using hl)
    subst this; rfl
  · have : xs = [] := List.eq_nil_of_length_eq_zero (by simpa using hl)
    subst this; rfl
  · rw [Nat.mul_one] at hl
    simp only [hg]
    rw [← hl, if_pos hle, ht, numsOf_nums]
    rfl
end Go.X
