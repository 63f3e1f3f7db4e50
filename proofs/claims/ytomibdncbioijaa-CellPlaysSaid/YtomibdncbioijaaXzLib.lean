/- Small things: rows, places. -/
import Derived.Test.YtomibdncbioijaaXzS
set_option linter.unusedVariables false
set_option linter.unusedSimpArgs false
set_option maxRecDepth 20000
namespace Go.X
open Go Go.RowKit
theorem rldc' {H : Heap} {p : Nat} {vs : List Value} {own : Bool} (h : H.get p = .row vs own) (i : Nat) : ldc H p i = vs[i]? := by
  unfold ldc; rw [h]
theorem rstc' {H : Heap} {p : Nat} {vs : List Value} (h : H.get p = .row vs true) {i : Nat} (hi : i < vs.length) (v : Value) : stc H p i [v] = some (H.set p (.row (vs.set i v) true)) := by
  unfold stc; rw [h]; simp only [List.length_cons, List.length_nil]
  rw [if_pos (by omega)]; rfl
theorem rstAll {H : Heap} {p : Nat} {vs us : List Value} (h : H.get p = .row vs true) (hl : us.length = vs.length) : stc H p 0 us = some (H.set p (.row us true)) := by
  unfold stc; rw [h]
  simp only
  rw [if_pos (by omega), setMany_eq us vs 0 (by omega)]
  simp [hl]
theorem rldAll {H : Heap} {p : Nat} {vs : List Value} {own : Bool} (h : H.get p = .row vs own) : ldAll H p 0 vs := by
  have key : ∀ (us : List Value) (o : Nat), vs.drop o = us → ldAll H p o us := by
    intro us
    induction us with
    | nil => exact fun _ _ => trivial
    | cons u us ih => exact fun o ho => ⟨by rw [rldc' h]; exact drop_get ho, ih (o + 1) (drop_next ho)⟩
  exact key vs 0 rfl
theorem chgSet' {H : Heap} {p : Nat} (o : AObj) : Chg (fun b => b = p) H (H.set p o) := Chg.set (S := fun b => b = p) _ rfl
theorem OwnI.putc' {K : IntKind} {base : Nat} {H : Heap} {n k b o : Nat} {xs : List Int} (h : OwnI K base H (some ⟨b, o, none⟩) n k xs) {i : Nat} (hi : i < n) (v : Int) :
    ∃ H', stc H b (o + Int.toNat (i : Int) * 1) [.int K v] = some H' ∧ OwnI K base H' (some ⟨b, o, none⟩) n k (xs.set i v) ∧ Keep base H H' ∧ H'.next = H.next := by
  obtain ⟨H', c, o2, g, e⟩ := OwnI.put h hi v
  exact ⟨H', c, o2, g, e⟩
theorem getD_some {xs : List Int} {j : Nat} (h : j < xs.length) : xs[j]? = some (xs.getD j 0) := by simp [List.getD, List.getElem?_eq_getElem h]
/-- Where the first one is, or -1. -/
def ix : List Int → Int → Int
  | [], _ => -1
  | x :: xs, t => if t = x then 0 else if ix xs t < 0 then -1 else ix xs t + 1
theorem ix_le : ∀ (xs : List Int) (t : Int), -1 ≤ ix xs t ∧ ix xs t < xs.length
  | [], t => by simp [ix]
  | x :: xs, t => by
    have := ix_le xs t
    unfold ix
    simp only [List.length_cons]
    split
    · omega
    · split <;> omega
theorem ix_get : ∀ (xs : List Int) (t : Int), 0 ≤ ix xs t → xs[(ix xs t).toNat]? = some t
  | [], t, h => by simp [ix] at h
  | x :: xs, t, h => by
    unfold ix at h ⊢
    by_cases e : t = x
    · rw [if_pos e]; simp [e]
    · rw [if_neg e] at h ⊢
      by_cases e2 : ix xs t < 0
      · rw [if_pos e2] at h; omega
      · rw [if_neg e2, show (ix xs t + 1).toNat = (ix xs t).toNat + 1 by omega]
        have := ix_get xs t (by omega)
        simpa using this
theorem ix_mem : ∀ (xs : List Int) (t : Int), 0 ≤ ix xs t ↔ t ∈ xs
  | [], t => by simp [ix]
  | x :: xs, t => by
    have h := ix_mem xs t
    have hl := ix_le xs t
    unfold ix
    by_cases e : t = x
    · rw [if_pos e]; simp [e]
    · rw [if_neg e, List.mem_cons, or_iff_right e, ← h]
      by_cases e2 : ix xs t < 0
      · rw [if_pos e2]; omega
      · rw [if_neg e2]; omega
theorem ix_nodup : ∀ (xs : List Int) (i : Nat) (t : Int), xs.Nodup → xs[i]? = some t → ix xs t = i
  | x :: xs, 0, t, hn, h => by
    have : x = t := by simpa using h
    unfold ix; rw [if_pos this.symm]; rfl
  | x :: xs, i + 1, t, hn, h => by
    have h' : xs[i]? = some t := by simpa using h
    have hn := List.nodup_cons.1 hn
    have ih := ix_nodup xs i t hn.2 h'
    unfold ix
    rw [if_neg (fun (e : t = x) => hn.1 (by rw [← e]; exact List.mem_of_getElem? h')), ih, if_neg (by omega)]
    omega
/-- Two new rows. -/
theorem two (H : Heap) (p z : List Value) : ∃ H1 H2, H1 = H.push (.row p true) ∧ H2 = H1.push (.row z true) ∧ H1.next = H.next + 1 ∧ H2.next = H.next + 2 ∧ H1.get H.next = .row p true ∧ H2.get H.next = .row p true ∧ H2.get H1.next = .row z true ∧ Keep H.next H H1 ∧ Keep H.next H H2 := by
  refine ⟨_, _, rfl, rfl, rfl, rfl, by simp, ?_, Heap.get_push_same _ _, Keep.push _ (Nat.le_refl _), (Keep.push _ (Nat.le_refl _)).trans (Keep.push _ (by simp))⟩
  rw [Heap.get_push_ne _ _ _ (by simp)]; simp
theorem one (H : Heap) (p : List Value) : ∃ H1, H1 = H.push (.row p true) ∧ H1.next = H.next + 1 ∧ H1.get H.next = .row p true ∧ Keep H.next H H1 :=
  ⟨_, rfl, rfl, by simp, Keep.push _ (Nat.le_refl _)⟩
theorem Ints.get0 {K : IntKind} {H : Heap} {b o n k : Nat} {xs : List Int} {x : Int} (h : Ints K H (some ⟨b, o, none⟩) n k xs) (hx : xs[0]? = some x) : ldc H b o = some (.int K x) := by simpa using Ints.get h (i := 0) hx
theorem Keep.reserve (H : Heap) (n : Nat) : Keep H.next H (X.reserve H n) := ⟨by rw [next_reserve]; omega, fun b hb => by rw [get_reserve, if_neg (by omega)]⟩
theorem Sl.ofRow {H : Heap} {b : Nat} {vs : List Value} {own : Bool} (h : H.get b = .row vs own) (hb : b < H.next) : Sl H 1 (some ⟨b, 0, none⟩) vs.length (UNK 1) vs :=
  ⟨by simp, .inr (.inr ⟨b, 0, rfl, rfl, hb, vs, own, h, by omega, by simp⟩)⟩
end Go.X
