/- Frames by sets of rows. -/
import Derived.Test.YtomibdncbioijaaXzK
set_option linter.unusedVariables false
set_option linter.unusedSimpArgs false
namespace Go.X
open Go Go.RowKit

/-- The row that a slice, a pointer, lies in. -/
def In1 (a : Option Addr) (b : Nat) : Prop := ∃ o, a = some ⟨b, o, none⟩
theorem In1.none {b : Nat} : ¬In1 none b := fun ⟨_, h⟩ => by cases h
theorem In1.spot {b : Nat} : ¬In1 (some ⟨0, 0, some 0⟩) b := fun ⟨_, h⟩ => by cases h
theorem In1.eq {b c o : Nat} : In1 (some ⟨c, o, Option.none⟩) b ↔ b = c := ⟨fun ⟨_, h⟩ => by cases h; rfl, fun h => ⟨o, by rw [h]⟩⟩
/-- All old rows outside a set are as they were. -/
structure Chg (S : Nat → Prop) (H H' : Heap) : Prop where
  next : H.next ≤ H'.next
  get : ∀ b, b < H.next → ¬S b → H'.get b = H.get b
section
variable {S T : Nat → Prop} {H H' H1 H2 : Heap} {z n k : Nat} {a : Option Addr} {vs : List Value} {base : Nat}
theorem Chg.refl (H : Heap) : Chg S H H := ⟨Nat.le_refl _, fun _ _ _ => rfl⟩
theorem Chg.weak (h : Chg S H H') (hs : ∀ b, b < H.next → S b → T b) : Chg T H H' := ⟨h.next, fun b hb hT => h.get b hb fun hS => hT (hs b hb hS)⟩
theorem Chg.trans (h : Chg S H H1) (k : Chg T H1 H2) (hT : ∀ b, b < H.next → T b → S b) : Chg S H H2 :=
  ⟨Nat.le_trans h.next k.next, fun b hb hS => (k.get b (Nat.lt_of_lt_of_le hb h.next) fun t => hS (hT b hb t)).trans (h.get b hb hS)⟩
theorem Keep.chg (h : Keep base H H') : Chg (fun b => base ≤ b) H H' := ⟨h.next, fun b _ hb => h.get b (by omega)⟩
theorem Keep.chg0 (h : Keep H.next H H') : Chg S H H' := ⟨h.next, fun b hb _ => h.get b hb⟩
theorem Chg.keep (h : Chg S H H') (hb : base ≤ H.next) (hs : ∀ b, b < H.next → S b → base ≤ b) : Keep base H H' := ⟨h.next, fun b hlt => h.get b (by omega) fun hS => by have := hs b (by omega) hS; omega⟩
theorem Chg.push (o : AObj) : Chg S H (H.push o) := Keep.chg0 (Keep.push o (Nat.le_refl _))
theorem Chg.set {b : Nat} (o : AObj) (h : S b) : Chg S H (H.set b o) := ⟨by simp, fun c _ hc => Heap.get_set_ne _ _ _ _ fun e => hc (e ▸ h)⟩
theorem Sl.chg (h : Sl H z a n k vs) (c : Chg S H H') (ha : ∀ b, In1 a b → ¬S b) : Sl H' z a n k vs := by
  obtain ⟨hl, h | h | ⟨b, o, h1, h2, h3, cs, own, h4, h5⟩⟩ := h
  · exact ⟨hl, .inl h⟩
  · exact ⟨hl, .inr (.inl h)⟩
  · exact ⟨hl, .inr (.inr ⟨b, o, h1, h2, Nat.lt_of_lt_of_le h3 c.next, cs, own, by rw [c.get b h3 (ha b ⟨o, h1⟩)]; exact h4, h5⟩)⟩
theorem Own.chg (h : Own base H z a n k vs) (c : Chg S H H') (ha : ∀ b, In1 a b → ¬S b) : Own base H' z a n k vs := by
  obtain ⟨hl, h | ⟨b, o, cs, h1, h2, h3, h4, h5, h6⟩⟩ := h
  · exact ⟨hl, .inl h⟩
  · exact ⟨hl, .inr ⟨b, o, cs, h1, h2, h3, Nat.lt_of_lt_of_le h4 c.next, by rw [c.get b h4 (ha b ⟨o, h1⟩)]; exact h5, h6⟩⟩
theorem Own.lt (h : Own base H z a n k vs) {b : Nat} (hb : In1 a b) : base ≤ b ∧ b < H.next := by
  obtain ⟨hl, ⟨h, _⟩ | ⟨b', o, cs, h1, h2, h3, h4, _⟩⟩ := h
  · subst h; exact absurd hb In1.none
  · subst h1; obtain ⟨o', e⟩ := hb; cases e; exact ⟨h3, h4⟩
theorem Sl.lt (h : Sl H z a n k vs) {b : Nat} (hb : In1 a b) : b < H.next := by
  obtain ⟨hl, ⟨h, _⟩ | ⟨h, _⟩ | ⟨b', o, h1, h2, h3, _⟩⟩ := h
  · subst h; exact absurd hb In1.none
  · subst h; exact absurd hb In1.spot
  · subst h1; obtain ⟨o', e⟩ := hb; cases e; exact h3
/-- Appending, with its frame. -/
theorem Own.append' {by_ n2 k2 : Nat} {a2 : Option Addr} {ws : List Value} (h : Own base H z a n k vs) (h2 : Sl H z a2 n2 k2 ws) (hz : 0 < z) (hb : base ≤ H.next) (hs : (n + n2) * by_ ≤ 140737488355328) (hs2 : n + n2 ≤ 140737488355328) :
    ∃ a' k' H', papp H z by_ a n k a2 n2 k2 = some ((a', n + n2, k'), H') ∧ Own base H' z a' (n + n2) k' (vs ++ ws) ∧ Chg (In1 a) H H' ∧ ∀ b, In1 a' b → In1 a b ∨ H.next ≤ b := by
  have hlen : (vs ++ ws).length = (n + n2) * z := by rw [List.length_append, h.len, h2.len, Nat.add_mul]
  unfold papp xappend
  rw [xsrc_sl h2 hz]
  simp only
  by_cases h0 : n2 = 0
  · subst h0
    have : ws = [] := List.eq_nil_of_length_eq_zero (by rw [h2.len]; simp)
    subst this
    rw [if_pos rfl]
    exact ⟨a, k, H, rfl, by simpa using h, Chg.refl _, fun b hb => .inl hb⟩
  · rw [if_neg h0]
    obtain ⟨hl, ⟨rfl, rfl, rfl⟩ | ⟨b, o, cs, rfl, rfl, h3, h4, h5, h6, h7⟩⟩ := h
    · have : vs = [] := List.eq_nil_of_length_eq_zero (by omega)
      subst this
      simp only [Nat.zero_add, true_and] at hs hs2 ⊢
      rw [if_pos ⟨hs, hs2⟩]
      have := (Own.new (H := H) (z := z) (n := n2) (vs := ws) h2.len).weak hb
      exact ⟨_, _, _, rfl, by simpa using this, Chg.push _, fun b hb => .inr (Nat.le_of_eq (In1.eq.1 hb).symm)⟩
    · simp only [h5]
      rw [if_pos ⟨h6, hs, hs2, hz⟩, if_neg (by unfold UNK; omega), if_pos (by first | exact ⟨rfl, trivial⟩ | exact ⟨rfl, rfl⟩ | trivial)]
      by_cases hroom : o + (n + n2) * z ≤ cs.length
      · rw [if_pos hroom]
        refine ⟨_, _, _, rfl, ⟨hlen, .inr ⟨b, o, setMany cs (o + n * z) ws, rfl, rfl, h3, by simpa using h4, Heap.get_set_same _ _ _, ?_, ?_⟩⟩, Chg.set _ (In1.eq.2 rfl), fun b hb => .inl hb⟩
        · rw [setMany_length]; exact hroom
        · have hw : o + n * z + ws.length ≤ cs.length := by rw [h2.len]; rw [Nat.add_mul] at hroom; omega
          rw [setMany_eq ws cs (o + n * z) hw]
          have e1 : (cs.take (o + n * z) ++ ws ++ cs.drop (o + n * z + ws.length)).drop o = vs ++ ws ++ cs.drop (o + n * z + ws.length) := by
            rw [List.append_assoc, List.drop_append_of_le_length (by simp; omega), List.drop_take, Nat.add_sub_cancel_left, h7, List.append_assoc]
          rw [e1, ← hlen, List.take_left]
      · rw [if_neg hroom]
        have := (Own.new (H := H.set b .dead) (z := z) (n := n + n2) (vs := vs ++ ws) hlen).weak (base' := base) (by simpa using hb)
        refine ⟨_, _, _, rfl, by rw [h7]; exact this, (Chg.set (S := In1 (some ⟨b, o, none⟩)) _ (In1.eq.2 rfl)).trans (Chg.push (S := In1 (some ⟨b, o, none⟩)) _) (fun _ _ h => h), fun b' hb' => .inr ?_⟩
        exact Nat.le_of_eq (In1.eq.1 hb').symm
end
end Go.X
