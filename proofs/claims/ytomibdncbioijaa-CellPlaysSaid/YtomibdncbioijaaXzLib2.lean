/- Small things: rows, bytes. -/
import Derived.Test.YtomibdncbioijaaXzLib
import Derived.Test.YtomibdncbioijaaXzBy
set_option linter.unusedVariables false
set_option linter.unusedSimpArgs false
set_option maxRecDepth 20000
namespace Go.X
open Go Go.RowKit
theorem rowSet {H : Heap} {p i : Nat} {vs : List Value} (v : Value) (h : H.get p = .row vs true) (hp : p < H.next) (hi : i < vs.length) : ∃ H', stc H p i [v] = some H' ∧ H'.get p = .row (vs.set i v) true ∧ Chg (fun b => b = p) H H' ∧ H'.next = H.next :=
  ⟨_, rstc' h hi v, by simp, chgSet' _, rfl⟩
theorem rowAll {H : Heap} {p : Nat} {vs us : List Value} (h : H.get p = .row vs true) (hp : p < H.next) (hl : us.length = vs.length) : ∃ H', stc H p 0 us = some H' ∧ H'.get p = .row us true ∧ Chg (fun b => b = p) H H' ∧ H'.next = H.next :=
  ⟨_, rstAll h hl, by simp, chgSet' _, rfl⟩
theorem Chg.at {H H' : Heap} {p b : Nat} {o : AObj} (c : Chg (fun b => b = p) H H') (hb : b < H.next) (hne : b ≠ p) (h : H.get b = o) : H'.get b = o := by rw [c.get b hb hne]; exact h
theorem Chg.kp {H H' : Heap} {p base : Nat} (c : Chg (fun b => b = p) H H') (hb : base ≤ H.next) (hp : base ≤ p) : Keep base H H' := c.keep hb fun b _ h => by have h : b = p := h; omega
theorem fill (H : Heap) (z us : List Value) (hl : us.length = z.length) : ∃ H2, stc (H.push (.row z true)) H.next 0 us = some H2 ∧ H2.get H.next = .row us true ∧ Keep H.next H H2 ∧ H2.next = H.next + 1 :=
  ⟨_, rstAll (vs := z) (by simp) hl, by simp, (Keep.push _ (Nat.le_refl _)).trans (Keep.set _ (Nat.le_refl _)), rfl⟩
theorem isB_cons {x : Int} {xs : List Int} (h : 0 ≤ x ∧ x < 256) (h2 : IsB xs) : IsB (x :: xs) := fun y hy => by rcases List.mem_cons.1 hy with rfl | hy; exact h; exact h2 y hy
theorem isB_app {xs ys : List Int} (h : IsB xs) (h2 : IsB ys) : IsB (xs ++ ys) := fun y hy => by rcases List.mem_append.1 hy with hy | hy; exact h y hy; exact h2 y hy
theorem isB_nil : IsB [] := fun _ h => by cases h
theorem nb_wrap (x : Int) : IntKind.wrap .u64 x = nb (BitVec.ofInt 64 x) := wrap_nb (k := .u64) rfl x
theorem tbits_seg {xs : List Int} {v : BitVec 64} {n k : Nat} (hx : tbits xs = seg v (8 * n) (8 * k)) (hk : k < n) : tbits (xs ++ [IntKind.wrap .u8 (nb (v >>> (8 * (n - 1 - k))))]) = seg v (8 * n) (8 * (k + 1)) := by
  rw [tbits_append, hx, tbits_one, ← seg_app v (left := 8 * n) (k := 8 * k) (w := 8 * (k + 1)) (by omega) (by omega) (by omega)]
  congr 1
  rw [show 8 * (k + 1) - 8 * k = 8 by omega]
  apply List.ext_getElem?
  intro i
  by_cases hi : i < 8
  · rw [seg_get _ hi, seg_get _ hi]
    congr 1
    have hb : 0 ≤ IntKind.wrap .u8 (nb (v >>> (8 * (n - 1 - k)))) ∧ IntKind.wrap .u8 (nb (v >>> (8 * (n - 1 - k)))) < 256 := by
      rw [wrap_nb (k := .u8) rfl]
      exact ⟨Int.natCast_nonneg _, by have := nb_lt (BitVec.ofInt 8 (nb (v >>> (8 * (n - 1 - k))))); exact_mod_cast this⟩
    have e8 : ∀ x : Int, BitVec.ofInt 8 (IntKind.wrap .u8 x) = BitVec.ofInt 8 x := fun x => by rw [wrap_nb (k := .u8) rfl]; exact ofInt_nb (n := 8) _
    rw [← byte_bit hb (by omega), e8]
    rw [show (nb (v >>> (8 * (n - 1 - k)))) = (((v >>> (8 * (n - 1 - k))).toNat : Nat) : Int) from rfl, BitVec.ofInt_natCast, BitVec.getLsbD_ofNat, decide_eq_true (by omega), Bool.true_and]
    show (v >>> (8 * (n - 1 - k))).getLsbD (8 - 1 - i) = _
    rw [BitVec.getLsbD_ushiftRight]
    congr 1
    omega
  · rw [List.getElem?_eq_none (by rw [seg_len]; omega), List.getElem?_eq_none (by rw [seg_len]; omega)]
theorem wrap8_b (x : Int) : 0 ≤ IntKind.wrap .u8 x ∧ IntKind.wrap .u8 x < 256 := by
  rw [wrap_nb (k := .u8) rfl]
  exact ⟨Int.natCast_nonneg _, by have := nb_lt (BitVec.ofInt 8 x); exact_mod_cast this⟩
theorem wrap8_id {x : Int} (h : 0 ≤ x ∧ x < 256) : IntKind.wrap .u8 x = x := by
  rw [wrap_nb (k := .u8) rfl]
  exact nb_ofInt (n := 8) h.1 (by have := h.2; exact_mod_cast this)
theorem Keep.th {H H1 H2 : Heap} (h : Keep H.next H H1) (k : Keep H1.next H1 H2) : Keep H.next H H2 := h.trans (k.weak h.next)
theorem xor8_b {x y : Int} (hx : 0 ≤ x ∧ x < 256) (hy : 0 ≤ y ∧ y < 256) : 0 ≤ ixor .u8 x y ∧ ixor .u8 x y < 256 := by
  have h1 := nb_ofInt (n := 8) hx.1 (by have := hx.2; show _ < (2 : Int) ^ 8; omega)
  have h2 := nb_ofInt (n := 8) hy.1 (by have := hy.2; show _ < (2 : Int) ^ 8; omega)
  rw [← h1, ← h2]
  have := ixor_nb (k := .u8) rfl (BitVec.ofInt 8 x) (BitVec.ofInt 8 y)
  rw [show ixor .u8 (nb (BitVec.ofInt 8 x)) (nb (BitVec.ofInt 8 y)) = nb (BitVec.ofInt 8 x ^^^ BitVec.ofInt 8 y) from this]
  exact ⟨Int.natCast_nonneg _, by have := nb_lt (BitVec.ofInt 8 x ^^^ BitVec.ofInt 8 y); exact_mod_cast this⟩
theorem isB_set {xs : List Int} (h : IsB xs) {i : Nat} {v : Int} (hv : 0 ≤ v ∧ v < 256) : IsB (xs.set i v) := fun y hy => by
  rcases List.mem_or_eq_of_mem_set hy with hy | hy
  · exact h y hy
  · rw [hy]; exact hv
theorem list_split {bs : List Int} {i : Nat} (h : i < bs.length) : bs.drop i = bs.getD i 0 :: bs.drop (i + 1) := by rw [List.drop_eq_getElem_cons h]; simp [List.getD, h]
end Go.X
