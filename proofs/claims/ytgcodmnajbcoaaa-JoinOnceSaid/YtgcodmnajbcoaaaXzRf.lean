/- The reference's reader of bytes: what its row says; numbers of bytes. -/
import Derived.Test.YtgcodmnajbcoaaaXzBy
import Derived.Test.YtgcodmnajbcoaaaXzC
set_option linter.unusedVariables false
set_option linter.unusedSimpArgs false
set_option maxRecDepth 20000
namespace Go.X
open Go Go.RowKit
/-- A reader of bytes: what is left, its error. -/
structure RF (H : Heap) (p : Nat) (xs : List Int) (e : Int) (a : Option Addr) (n k : Nat) : Prop where
  row : H.get p = .row [.slice a n k, .int .i64 e] true
  lt : p < H.next
  s : Ints .u8 H a n k xs
  ap : ¬In1 a p
  sm : n ≤ 1099511627776
/-- So many bytes: what is told, what is left, the error. -/
def rawS (xs : List Int) (e n : Int) : List Int × List Int × Int := if e ≠ 0 ∨ (xs.length : Int) < max 0 n then ([], [], 2) else (xs.take n.toNat, xs.drop n.toNat, e)
def RFm (Q : Nat → Prop) (H : Heap) (p : Nat) (xs : List Int) (e : Int) : Prop := ∃ a n k, RF H p xs e a n k ∧ ∀ b, In1 a b → Q b
theorem RFm.chg {Q S : Nat → Prop} {H H' : Heap} {p : Nat} {xs : List Int} {e : Int} (h : RFm Q H p xs e) (c : Chg S H H') (hp : ¬S p) (hq : ∀ b, Q b → ¬S b) : RFm Q H' p xs e := by
  obtain ⟨a, n, k, r, q⟩ := h
  exact ⟨a, n, k, ⟨by rw [c.get p r.lt hp]; exact r.row, Nat.lt_of_lt_of_le r.lt c.next, r.s.chg c fun b hb => hq b (q b hb), r.ap, r.sm⟩, q⟩
theorem RFm.new {Q : Nat → Prop} {H H' : Heap} {p : Nat} {xs : List Int} {e : Int} (h : RFm Q H p xs e) (c : Keep H.next H H') : RFm Q H' p xs e := h.chg (c.chg0 (S := fun _ => False)) (fun h => h) fun _ _ h => h
theorem RFm.lt {Q : Nat → Prop} {H : Heap} {p : Nat} {xs : List Int} {e : Int} (h : RFm Q H p xs e) : p < H.next := by obtain ⟨a, n, k, r, q⟩ := h; exact r.lt
theorem RFm.err {Q : Nat → Prop} {H : Heap} {p : Nat} {xs : List Int} {e : Int} (h : RFm Q H p xs e) : ldc H p 1 = some (.int .i64 e) := by obtain ⟨a, n, k, r, q⟩ := h; unfold ldc; rw [r.row]; rfl
theorem RFm.mk0 {H : Heap} {a : Option Addr} {n k : Nat} {xs : List Int} (hs : Ints .u8 H a n k xs) (hn : n ≤ 1099511627776) : RFm (fun b => b < H.next) (H.push (.row [.slice a n k, .int .i64 0] true)) H.next xs 0 :=
  ⟨a, n, k, ⟨by simp, by simp, hs.keep (Keep.push _ (Nat.le_refl _)), fun c => by have := Sl.lt hs c; omega, hn⟩, fun b hb => Sl.lt hs hb⟩
theorem RFm.mk1 {Q : Nat → Prop} {H : Heap} {a : Option Addr} {n k : Nat} {xs : List Int} (hs : Ints .u8 H a n k xs) (hn : n ≤ 1099511627776) (hq : ∀ b, In1 a b → Q b) : RFm Q (H.push (.row [.slice a n k, .int .i64 0] true)) H.next xs 0 :=
  ⟨a, n, k, ⟨by simp, by simp, hs.keep (Keep.push _ (Nat.le_refl _)), fun c => by have := Sl.lt hs c; omega, hn⟩, hq⟩
/-- The reader's state behind so many bytes. -/
def rfX (bs : List Int) (j : Nat) : List Int := if j ≤ bs.length then bs.drop j else []
def rfE (bs : List Int) (j : Nat) : Int := if j ≤ bs.length then 0 else 2
def rfT (bs : List Int) (j m : Nat) : List Int := if j + m ≤ bs.length then (bs.drop j).take m else []
theorem rawS_st (bs : List Int) (j w : Nat) : rawS (rfX bs j) (rfE bs j) (w : Int) = (rfT bs j w, rfX bs (j + w), rfE bs (j + w)) := by
  unfold rfX rfE rfT rawS
  by_cases hj : j ≤ bs.length
  · rw [if_pos hj, if_pos hj, List.length_drop]
    by_cases hw : j + w ≤ bs.length
    · rw [if_neg (by omega), if_pos hw, if_pos hw, if_pos hw, Int.toNat_natCast, List.drop_drop]
    · rw [if_pos (by omega), if_neg hw, if_neg hw, if_neg hw]
  · rw [if_neg hj, if_neg hj, if_pos (by omega), if_neg (by omega), if_neg (by omega), if_neg (by omega)]
theorem rfX_isB {bs : List Int} (hb : IsB bs) (j : Nat) : IsB (rfX bs j) := by
  unfold rfX; split
  · exact fun x hx => hb x (List.mem_of_mem_drop hx)
  · exact fun x hx => by cases hx
theorem rfT_one (bs : List Int) (j : Nat) : (rfT bs j 1).getD 0 0 = bs.getD j 0 := by
  unfold rfT
  by_cases h : j + 1 ≤ bs.length
  · rw [if_pos h, List.drop_eq_getElem_cons (show j < bs.length by omega)]
    simp [List.getD, show j < bs.length by omega]
  · rw [if_neg h]
    simp [List.getD, List.getElem?_eq_none (show bs.length ≤ j by omega)]
theorem rfEnd (bs : List Int) (j : Nat) : (if rfE bs j = 0 ∧ rfX bs j ≠ [] then (3 : Int) else rfE bs j) = if bs.length < j then 2 else if j < bs.length then 3 else 0 := by
  unfold rfE rfX
  by_cases hj : j ≤ bs.length
  · rw [if_pos hj, if_pos hj, if_neg (show ¬bs.length < j by omega)]
    by_cases hj2 : j < bs.length
    · rw [if_pos ⟨rfl, by intro e; have := congrArg List.length e; simp at this; omega⟩, if_pos hj2]
    · rw [List.drop_eq_nil_of_le (by omega), if_neg (by simp), if_neg hj2]
  · rw [if_neg hj, if_neg hj, if_pos (show bs.length < j by omega), if_neg (by simp)]
theorem rawS_isB {xs : List Int} (h : IsB xs) (e n : Int) : IsB (rawS xs e n).1 ∧ IsB (rawS xs e n).2.1 := by
  unfold rawS
  split
  · exact ⟨fun _ h => by simp at h, fun _ h => by simp at h⟩
  · exact ⟨fun x hx => h x (List.mem_of_mem_take hx), fun x hx => h x (List.mem_of_mem_drop hx)⟩
theorem rawS_len (xs : List Int) (e n : Int) : (rawS xs e n).1.length ≤ xs.length := by
  unfold rawS
  split
  · simp
  · simp; omega
theorem valOf_byte (l : List Bool) (c : BitVec 64) (hc : c.toNat < 256) : valOf (l ++ bitsN c 8) = (valOf l <<< 8) ||| c := by
  apply BitVec.eq_of_getLsbD_eq
  intro i hi
  have hl : (l ++ bitsN c 8).length = l.length + 8 := by rw [List.length_append, seg_len]
  rw [valOf_get _ _ hl i hi, BitVec.getLsbD_or, BitVec.getLsbD_shiftLeft]
  by_cases h8 : i < 8
  · have : (l ++ bitsN c 8)[l.length + 8 - 1 - i]? = some (c.getLsbD i) := by
      rw [List.getElem?_append_right (by omega), seg_get _ (by omega)]
      congr 2; omega
    rw [List.getD, this, decide_eq_true (show i < l.length + 8 by omega)]
    simp [h8]
  · have hci : c.getLsbD i = false := Nat.testBit_lt_two_pow (Nat.lt_of_lt_of_le hc (by
      have : 2 ^ 8 ≤ 2 ^ i := Nat.pow_le_pow_right (by decide) (by omega)
      simpa using this))
    rw [hci, Bool.or_false, decide_eq_true hi, Bool.true_and, decide_eq_false h8, Bool.not_false, Bool.true_and, valOf_get _ l rfl (i - 8) (by omega)]
    by_cases h : i < l.length + 8
    · rw [decide_eq_true h, decide_eq_true (show i - 8 < l.length by omega), Bool.true_and, Bool.true_and]
      rw [List.getD, List.getD, List.getElem?_append_left (by omega), show l.length + 8 - 1 - i = l.length - 1 - (i - 8) by omega]
    · rw [decide_eq_false h, decide_eq_false (show ¬i - 8 < l.length by omega), Bool.false_and, Bool.false_and]
theorem beV_snoc {ys : List Int} {c : Int} (hc : 0 ≤ c ∧ c < 256) : ior .u64 (ishl .u64 (beV ys) 8) (IntKind.wrap .u64 c) = beV (ys ++ [c]) := by
  obtain ⟨m, rfl⟩ := Int.eq_ofNat_of_zero_le hc.1
  have hm : (BitVec.ofInt 64 (m : Int)).toNat < 256 := by
    rw [BitVec.ofInt_natCast, BitVec.toNat_ofNat]; omega
  unfold beV
  rw [tbits_append, tbits_one, valOf_byte _ _ hm]
  have e1 : ishl .u64 (nb (valOf (tbits ys))) 8 = nb (valOf (tbits ys) <<< 8) := ishl_nb (k := .u64) rfl _ 8 (by decide)
  have e2 : IntKind.wrap .u64 (m : Int) = nb (BitVec.ofInt 64 (m : Int)) := wrap_nb (k := .u64) rfl _
  rw [e1, e2]
  exact ior_nb (k := .u64) rfl _ _
theorem psl_sub {z n k : Nat} {a : Option Addr} {lo hi : Option Int} {a' : Option Addr} {n' k' : Nat} (h : psl z a n k lo hi none = some (a', n', k')) : ∀ b, In1 a' b → In1 a b := by
  intro b hb
  unfold psl at h
  obtain ⟨v, hv, hs⟩ := Option.bind_eq_some_iff.1 h
  unfold xslice at hv
  match a with
  | none =>
    simp only at hv
    split at hv
    · unfold xsliceNo at hv
      split at hv
      · split at hv
        · cases hv; cases hs; exact absurd hb In1.none
        · cases hv
      · cases hv
    · cases hv
  | some ⟨c, o, s⟩ =>
    simp only at hv
    cases s with
    | none =>
      simp only [xsliceAt, Option.map_none] at hv
      split at hv
      · split at hv
        · split at hv
          · cases hv; cases hs; obtain ⟨_, e⟩ := hb; cases e; exact ⟨_, rfl⟩
          · split at hv
            · split at hv
              · cases hv
              · cases hv; cases hs; obtain ⟨_, e⟩ := hb; cases e; exact ⟨_, rfl⟩
            · cases hv; cases hs; exact absurd hb In1.spot
        · cases hv
      · cases hv
    | some s =>
      simp only at hv
      split at hv
      · unfold xsliceNo at hv
        split at hv
        · split at hv
          · cases hv; cases hs; exact hb
          · cases hv
        · cases hv
      · cases hv
theorem beV_nil : beV [] = 0 := by decide
end Go.X
