/- Bytes as bits; numbers of more bytes. -/
import Derived.Test.YtomibdncbioijaaXzBt
import Derived.Test.YtomibdncbioijaaXzS
set_option linter.unusedVariables false
set_option linter.unusedSimpArgs false
namespace Go.X
open Go Go.RowKit
/-- The bits of bytes that are put. -/
def tbits (xs : List Int) : List Bool := xs.flatMap fun c => bitsN (BitVec.ofInt 64 c) 8
theorem tbits_len (xs : List Int) : (tbits xs).length = 8 * xs.length := by
  unfold tbits
  induction xs with
  | nil => rfl
  | cons x xs ih => rw [List.flatMap_cons, List.length_append, ih, seg_len, List.length_cons]; omega
theorem tbits_append (xs ys : List Int) : tbits (xs ++ ys) = tbits xs ++ tbits ys := List.flatMap_append
theorem tbits_one (x : Int) : tbits [x] = bitsN (BitVec.ofInt 64 x) 8 := by simp [tbits]
theorem tbits_get {xs : List Int} {i : Nat} (h : i < 8 * xs.length) : (tbits xs)[i]? = some ((BitVec.ofInt 64 (xs.getD (i / 8) 0)).getLsbD (7 - i % 8)) := by
  have hx : xs[i / 8]? = some (xs.getD (i / 8) 0) := by simp [List.getD, List.getElem?_eq_getElem (show i / 8 < xs.length by omega)]
  have g := flat_get (f := fun c => bitsN (BitVec.ofInt 64 c) 8 |>.map fun b => Value.bool b) (z := 8) (fun c => by simp [seg_len]) hx (i % 8) (by omega)
  have e : (tbits xs).map (Value.bool ·) = xs.flatMap fun c => bitsN (BitVec.ofInt 64 c) 8 |>.map fun b => Value.bool b := by
    unfold tbits; rw [List.map_flatMap]
  rw [← e, show i / 8 * 8 + i % 8 = i by omega, List.getElem?_map, List.getElem?_map, seg_get _ (by omega)] at g
  cases ht : (tbits xs)[i]? with
  | none => rw [ht] at g; cases g
  | some b =>
    rw [ht] at g
    simp only [Option.map_some, Option.some.injEq, Value.bool.injEq] at g
    rw [g, show 8 - 1 - i % 8 = 7 - i % 8 by omega]
theorem byte_bit {c : Int} (hc : 0 ≤ c ∧ c < 256) {k : Nat} (hk : k < 8) : (BitVec.ofInt 8 c).getLsbD k = (BitVec.ofInt 64 c).getLsbD k := by
  obtain ⟨n, rfl⟩ := Int.eq_ofNat_of_zero_le hc.1
  rw [BitVec.ofInt_natCast, BitVec.ofInt_natCast, BitVec.getLsbD_ofNat, BitVec.getLsbD_ofNat, decide_eq_true hk, decide_eq_true (show k < 64 by omega)]
theorem unpack_tbits {xs : List Int} (hb : IsB xs) : unpack xs = tbits xs := by
  apply List.ext_getElem?
  intro i
  by_cases h : i < 8 * xs.length
  · have hx : xs[i / 8]? = some (xs.getD (i / 8) 0) := by simp [List.getD, List.getElem?_eq_getElem (show i / 8 < xs.length by omega)]
    rw [unpack_get _ h, tbits_get h, byte_bit (hb.get hx) (by omega)]
  · rw [List.getElem?_eq_none (by rw [unpack_len]; omega), List.getElem?_eq_none (by rw [tbits_len]; omega)]
theorem pack_tbits {xs : List Int} (hb : IsB xs) : pack (tbits xs) = xs := by
  apply List.ext_getElem?
  intro j
  have hl := tbits_len xs
  by_cases h : j < xs.length
  · have hx : xs[j]? = some (xs.getD j 0) := by simp [List.getD, List.getElem?_eq_getElem h]
    rw [pack_get _ (by omega), hx]
    congr 1
    have hc := hb.get hx
    have e : byteB ((tbits xs).drop (8 * j)) = BitVec.ofInt 8 (xs.getD j 0) := by
      apply BitVec.eq_of_getLsbD_eq
      intro i hi
      rw [byteB_get _ hi, List.getD, List.getElem?_drop, tbits_get (by omega), Option.getD_some, show (8 * j + (7 - i)) / 8 = j by omega, show 7 - (8 * j + (7 - i)) % 8 = i by omega, byte_bit hc hi]
    rw [e, nb_ofInt hc.1 (by have := hc.2; show _ < (2 : Int) ^ 8; omega)]
  · rw [List.getElem?_eq_none (by rw [pack_len]; omega), List.getElem?_eq_none (by omega)]
theorem bitsN_valOf {l : List Bool} (h : l.length ≤ 64) : bitsN (valOf l) l.length = l := by
  apply List.ext_getElem?
  intro i
  by_cases hi : i < l.length
  · rw [seg_get _ hi, valOf_get l.length l rfl _ (by omega), decide_eq_true (by omega), Bool.true_and, show l.length - 1 - (l.length - 1 - i) = i by omega, List.getD, List.getElem?_eq_getElem hi]; rfl
  · rw [List.getElem?_eq_none (by rw [seg_len]; omega), List.getElem?_eq_none (by omega)]
/-- The number of bytes, the highest first. -/
def beV (bs : List Int) : Int := nb (valOf (tbits bs))
/-- The bytes of a number, so many. -/
def beB (n : Int) (k : Nat) : List Int := pack (bitsN (BitVec.ofInt 64 n) (8 * k))
theorem beB_len (n : Int) (k : Nat) : (beB n k).length = k := by unfold beB; rw [pack_len, seg_len]; omega
theorem beB_isB (n : Int) (k : Nat) : IsB (beB n k) := pack_isB _
theorem tbits_beB (n : Int) (k : Nat) : tbits (beB n k) = bitsN (BitVec.ofInt 64 n) (8 * k) := by
  unfold beB
  rw [← unpack_tbits (pack_isB _), unpack_pack]
  unfold fillUp
  rw [seg_len, show (8 - 8 * k % 8) % 8 = 0 by omega]; simp
theorem valOf_lt {l : List Bool} {k : Nat} (h : l.length ≤ k) (hk : k ≤ 64) : (valOf l).toNat < 2 ^ k := by
  refine Nat.lt_pow_two_of_testBit _ fun i hi => ?_
  by_cases h64 : i < 64
  · have := valOf_get l.length l rfl i h64
    rw [decide_eq_false (by omega), Bool.false_and] at this
    exact this
  · exact Nat.testBit_lt_two_pow (Nat.lt_of_lt_of_le (valOf l).isLt (Nat.pow_le_pow_right (by decide) (by omega)))
theorem beV_beB {n : Int} {k : Nat} (hk : k ≤ 8) (h0 : 0 ≤ n) (h1 : n < 2 ^ (8 * k)) : beV (beB n k) = n := by
  unfold beV
  rw [tbits_beB]
  obtain ⟨m, rfl⟩ := Int.eq_ofNat_of_zero_le h0
  have hm : m < 2 ^ (8 * k) := by exact_mod_cast h1
  have e : valOf (bitsN (BitVec.ofInt 64 (m : Int)) (8 * k)) = BitVec.ofInt 64 (m : Int) := by
    apply BitVec.eq_of_getLsbD_eq
    intro i hi
    rw [valOf_bitsN_get _ _ hi]
    by_cases h : i < 8 * k
    · rw [decide_eq_true h]; simp
    · rw [decide_eq_false h, Bool.false_and, BitVec.ofInt_natCast, BitVec.getLsbD_ofNat, decide_eq_true hi, Nat.testBit_lt_two_pow (Nat.lt_of_lt_of_le hm (Nat.pow_le_pow_right (by decide) (by omega)))]
      rfl
  have h64 : m < 2 ^ 64 := Nat.lt_of_lt_of_le hm (Nat.pow_le_pow_right (by decide) (by omega))
  rw [e, nb_ofInt (by omega) (by exact_mod_cast h64)]
theorem beB_beV {bs : List Int} {k : Nat} (hl : bs.length = k) (hk : k ≤ 8) (hb : IsB bs) : beB (beV bs) k = bs := by
  unfold beB beV
  have h := tbits_len bs
  rw [ofInt_nb, show 8 * k = (tbits bs).length by omega, bitsN_valOf (by omega), pack_tbits hb]
theorem beV_range {bs : List Int} {k : Nat} (hl : bs.length = k) (hk : k ≤ 8) : 0 ≤ beV bs ∧ beV bs < 2 ^ (8 * k) := by
  have h := valOf_lt (l := tbits bs) (k := 8 * k) (by rw [tbits_len]; omega) (by omega)
  exact ⟨Int.natCast_nonneg _, by unfold beV nb; exact_mod_cast h⟩
theorem beV_one {b : Int} (hb : 0 ≤ b ∧ b < 256) : beV [b] = b := by
  have := beV_beB (n := b) (k := 1) (by omega) hb.1 (by show b < 2 ^ 8; omega)
  have e : beB b 1 = [b] := by
    unfold beB
    rw [show 8 * 1 = 8 from rfl, ← tbits_one, pack_tbits (by intro x hx; simp at hx; subst hx; exact hb)]
  rw [e] at this; exact this
end Go.X
