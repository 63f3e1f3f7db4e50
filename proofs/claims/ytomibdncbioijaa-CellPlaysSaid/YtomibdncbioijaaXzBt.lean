/- Rows of bits, and the bytes that they make. -/
import Derived.Test.YtomibdncbioijaaXzK
import Derived.Test.YtomibdncbioijaaXzNum
import Derived.Test.YtomibdncbioijaaXzStr
set_option linter.unusedVariables false
set_option linter.unusedSimpArgs false
namespace Go.X
open Go Go.RowKit
theorem ishl_nb {k : IntKind} (hk : k.signed = false) (a : BitVec k.bits) (n : Nat) (hn : n ≤ k.bits) : ishl k (nb a) (n : Int) = nb (a <<< n) := by
  unfold ishl
  rw [Int.toNat_natCast, Nat.min_eq_left hn, wrap_nb hk]
  congr 1
  apply BitVec.eq_of_toNat_eq
  rw [BitVec.toNat_ofInt, BitVec.toNat_shiftLeft, Nat.shiftLeft_eq, nb]
  have e : (a.toNat : Int) * 2 ^ n = ((a.toNat * 2 ^ n : Nat) : Int) := by norm_cast
  rw [e, ← Int.natCast_emod, Int.toNat_natCast]
/-- A byte of eight bits, the first one the highest. -/
def mk8 (b0 b1 b2 b3 b4 b5 b6 b7 : Bool) : BitVec 8 := BitVec.ofNat 8 (b0.toNat * 128 + b1.toNat * 64 + b2.toNat * 32 + b3.toNat * 16 + b4.toNat * 8 + b5.toNat * 4 + b6.toNat * 2 + b7.toNat)
theorem mk8_get : ∀ (b0 b1 b2 b3 b4 b5 b6 b7 : Bool), (mk8 b0 b1 b2 b3 b4 b5 b6 b7).getLsbD 0 = b7 ∧ (mk8 b0 b1 b2 b3 b4 b5 b6 b7).getLsbD 1 = b6 ∧ (mk8 b0 b1 b2 b3 b4 b5 b6 b7).getLsbD 2 = b5 ∧ (mk8 b0 b1 b2 b3 b4 b5 b6 b7).getLsbD 3 = b4 ∧
    (mk8 b0 b1 b2 b3 b4 b5 b6 b7).getLsbD 4 = b3 ∧ (mk8 b0 b1 b2 b3 b4 b5 b6 b7).getLsbD 5 = b2 ∧ (mk8 b0 b1 b2 b3 b4 b5 b6 b7).getLsbD 6 = b1 ∧ (mk8 b0 b1 b2 b3 b4 b5 b6 b7).getLsbD 7 = b0 := by decide +kernel
def byteB (l : List Bool) : BitVec 8 := mk8 (l.getD 0 false) (l.getD 1 false) (l.getD 2 false) (l.getD 3 false) (l.getD 4 false) (l.getD 5 false) (l.getD 6 false) (l.getD 7 false)
theorem byteB_get (l : List Bool) {i : Nat} (h : i < 8) : (byteB l).getLsbD i = l.getD (7 - i) false := by
  have g := mk8_get (l.getD 0 false) (l.getD 1 false) (l.getD 2 false) (l.getD 3 false) (l.getD 4 false) (l.getD 5 false) (l.getD 6 false) (l.getD 7 false)
  obtain ⟨g0, g1, g2, g3, g4, g5, g6, g7⟩ := g
  match i, h with
  | 0, _ => exact g0
  | 1, _ => exact g1
  | 2, _ => exact g2
  | 3, _ => exact g3
  | 4, _ => exact g4
  | 5, _ => exact g5
  | 6, _ => exact g6
  | 7, _ => exact g7
/-- The bits of a number from place 'left - 1' down, so many. -/
def seg (v : BitVec 64) (left k : Nat) : List Bool := (List.range k).map fun i => v.getLsbD (left - 1 - i)
theorem seg_len (v : BitVec 64) (left k : Nat) : (seg v left k).length = k := by simp [seg]
theorem seg_get (v : BitVec 64) {left k i : Nat} (h : i < k) : (seg v left k)[i]? = some (v.getLsbD (left - 1 - i)) := by simp [seg, h]
theorem seg_app (v : BitVec 64) {left k w : Nat} (h : k ≤ left) (hw : w ≤ left) (hk : k ≤ w) : seg v left k ++ seg v (left - k) (w - k) = seg v left w := by
  apply List.ext_getElem?
  intro i
  by_cases h1 : i < k
  · rw [List.getElem?_append_left (by rw [seg_len]; exact h1), seg_get v h1, seg_get v (show i < w by omega)]
  · rw [List.getElem?_append_right (by rw [seg_len]; omega), seg_len]
    by_cases h2 : i < w
    · rw [seg_get v (show i - k < w - k by omega), seg_get v h2]
      congr 2; omega
    · rw [List.getElem?_eq_none (by rw [seg_len]; omega), List.getElem?_eq_none (by rw [seg_len]; omega)]
abbrev bitsN (v : BitVec 64) (w : Nat) : List Bool := seg v w w
theorem mask_int : ∀ k : _root_.Fin 9, IntKind.wrap .u8 ((ishl .u8 1 (k.val : Int)) - 1) = nb ((1#8 <<< k.val) - 1#8) := by decide +kernel
theorem mask_get : ∀ (k : _root_.Fin 9) (i : _root_.Fin 8), ((1#8 <<< k.val) - 1#8).getLsbD i.val = decide (i.val < k.val) := by decide +kernel
theorem byte_or (v : BitVec 64) {l : List Bool} {left k : Nat} (hk : k ≤ left) (hr : l.length + k ≤ 8) :
    byteB (l ++ seg v left k) = byteB l ||| (((v >>> (left - k)).setWidth 8 &&& ((1#8 <<< k) - 1#8)) <<< (8 - l.length - k)) := by
  apply BitVec.eq_of_getLsbD_eq
  intro i hi
  rw [byteB_get _ hi, BitVec.getLsbD_or, byteB_get _ hi, BitVec.getLsbD_shiftLeft, decide_eq_true hi, BitVec.getLsbD_and]
  have hm := mask_get ⟨k, by omega⟩
  by_cases h1 : 7 - i < l.length
  · rw [List.getD, List.getElem?_append_left h1, ← List.getD]
    by_cases h2 : i < 8 - l.length - k
    · rw [decide_eq_true h2]; simp
    · have h3 := hm ⟨i - (8 - l.length - k), by omega⟩
      simp only at h3
      rw [h3, decide_eq_false (show ¬(i - (8 - l.length - k) < k) by omega)]; simp
  · rw [List.getD, List.getElem?_append_right (by omega)]
    have e0 : l.getD (7 - i) false = false := by rw [List.getD, List.getElem?_eq_none (by omega)]; rfl
    rw [e0]
    by_cases h2 : i < 8 - l.length - k
    · rw [decide_eq_true h2, List.getElem?_eq_none (by rw [seg_len]; omega)]; simp
    · have h3 := hm ⟨i - (8 - l.length - k), by omega⟩
      simp only at h3
      rw [h3, decide_eq_false h2, seg_get v (by omega), decide_eq_true (by omega), BitVec.getLsbD_setWidth, decide_eq_true (by omega), BitVec.getLsbD_ushiftRight]
      simp only [Option.getD_some, Bool.not_false, Bool.true_and, Bool.and_true, Bool.false_or]
      congr 1; omega
theorem byte_or_int (v : BitVec 64) {l : List Bool} {left k : Nat} (hl : left ≤ 64) (hk : k ≤ left) (hr : l.length + k ≤ 8) {x y z : Int} (hx : x = ((left - k : Nat) : Int)) (hy : y = (k : Int)) (hz : z = ((8 - l.length - k : Nat) : Int)) :
    ior .u8 (nb (byteB l)) (ishl .u8 (iand .u8 (IntKind.wrap .u8 (ishr .u64 (nb v) x)) (IntKind.wrap .u8 ((ishl .u8 1 y) - 1))) z) = nb (byteB (l ++ seg v left k)) := by
  subst hx hy hz
  have e1 : ishr .u64 (nb v) ((left - k : Nat) : Int) = nb (v >>> (left - k)) := ishr_nb (k := .u64) v (left - k) (show left - k ≤ 64 by omega)
  have e2 : IntKind.wrap .u8 (nb (v >>> (left - k))) = nb ((v >>> (left - k)).setWidth 8) := by
    rw [wrap_nb (k := .u8) rfl]
    congr 1
  have e3 := mask_int ⟨k, by omega⟩
  simp only at e3
  have e4 : iand .u8 (nb ((v >>> (left - k)).setWidth 8)) (nb ((1#8 <<< k) - 1#8)) = nb ((v >>> (left - k)).setWidth 8 &&& ((1#8 <<< k) - 1#8)) := iand_nb (k := .u8) rfl _ _
  have e5 : ishl .u8 (nb ((v >>> (left - k)).setWidth 8 &&& ((1#8 <<< k) - 1#8))) ((8 - l.length - k : Nat) : Int) = nb (((v >>> (left - k)).setWidth 8 &&& ((1#8 <<< k) - 1#8)) <<< (8 - l.length - k)) := ishl_nb (k := .u8) rfl _ _ (show 8 - l.length - k ≤ 8 by omega)
  rw [e1, e2, e3, e4, e5, byte_or v hk hr]
  exact ior_nb (k := .u8) rfl _ _
/-- All bits, by eight. -/
def pack (L : List Bool) : List Int := (List.range ((L.length + 7) / 8)).map fun j => nb (byteB (L.drop (8 * j)))
theorem pack_len (L : List Bool) : (pack L).length = (L.length + 7) / 8 := by simp [pack]
theorem pack_get (L : List Bool) {j : Nat} (h : j < (L.length + 7) / 8) : (pack L)[j]? = some (nb (byteB (L.drop (8 * j)))) := by simp [pack, h]
theorem pack_isB (L : List Bool) : IsB (pack L) := by
  intro x hx
  obtain ⟨j, _, rfl⟩ := List.mem_map.1 hx
  have := nb_lt (byteB (L.drop (8 * j)))
  constructor
  · exact Int.natCast_nonneg _
  · exact this
theorem byteB_cong {l m : List Bool} (h : ∀ i, i < 8 → l.getD i false = m.getD i false) : byteB l = byteB m := by
  apply BitVec.eq_of_getLsbD_eq
  intro i hi
  rw [byteB_get _ hi, byteB_get _ hi, h _ (by omega)]
/-- Putting bits into the last byte. -/
theorem pack_put (L bs : List Bool) (h0 : 0 < bs.length) (h8 : L.length % 8 + bs.length ≤ 8) :
    pack (L ++ bs) = ((pack L) ++ (if L.length % 8 = 0 then [0] else [])).set (L.length / 8) (nb (byteB (L.drop (8 * (L.length / 8)) ++ bs))) := by
  have hn : ((L ++ bs).length + 7) / 8 = L.length / 8 + 1 := by rw [List.length_append]; omega
  have hm : ((pack L) ++ (if L.length % 8 = 0 then [0] else [])).length = L.length / 8 + 1 := by
    rw [List.length_append, pack_len]; split <;> simp <;> omega
  apply List.ext_getElem?
  intro j
  by_cases hj : j < L.length / 8 + 1
  · rw [pack_get _ (by omega)]
    by_cases he : L.length / 8 = j
    · subst he
      rw [List.getElem?_set_self (by omega), List.drop_append_of_le_length (by omega)]
    · rw [List.getElem?_set_ne he, List.getElem?_append_left (by rw [pack_len]; omega), pack_get _ (by omega)]
      congr 2
      apply byteB_cong
      intro i hi
      rw [List.drop_append_of_le_length (by omega), List.getD, List.getD, List.getElem?_append_left (by simp; omega)]
  · rw [List.getElem?_eq_none (by rw [pack_len, hn]; omega), List.getElem?_eq_none (by rw [List.length_set, hm]; omega)]
/-- The last byte, ahead of more bits. -/
theorem pack_last (L : List Bool) : ((pack L) ++ (if L.length % 8 = 0 then [0] else []))[L.length / 8]? = some (nb (byteB (L.drop (8 * (L.length / 8))))) := by
  by_cases h : L.length % 8 = 0
  · rw [if_pos h, List.getElem?_append_right (by rw [pack_len]; omega), pack_len, show L.length / 8 - (L.length + 7) / 8 = 0 by omega]
    have : L.drop (8 * (L.length / 8)) = [] := List.drop_eq_nil_of_le (by omega)
    rw [this]; rfl
  · rw [if_neg h, List.append_nil, pack_get _ (by omega)]
/-- The bits of bytes. -/
def unpack (B : List Int) : List Bool := (List.range (8 * B.length)).map fun i => (BitVec.ofInt 8 (B.getD (i / 8) 0)).getLsbD (7 - i % 8)
theorem unpack_len (B : List Int) : (unpack B).length = 8 * B.length := by simp [unpack]
theorem unpack_get (B : List Int) {i : Nat} (h : i < 8 * B.length) : (unpack B)[i]? = some ((BitVec.ofInt 8 (B.getD (i / 8) 0)).getLsbD (7 - i % 8)) := by simp [unpack, h]
/-- Bits, filled up to whole bytes. -/
def fillUp (L : List Bool) : List Bool := L ++ List.replicate ((8 - L.length % 8) % 8) false
theorem fillUp_len (L : List Bool) : (fillUp L).length = 8 * ((L.length + 7) / 8) := by unfold fillUp; rw [List.length_append, List.length_replicate]; omega
theorem unpack_pack (L : List Bool) : unpack (pack L) = fillUp L := by
  apply List.ext_getElem?
  intro i
  by_cases h : i < 8 * ((L.length + 7) / 8)
  · rw [unpack_get _ (by rw [pack_len]; exact h), List.getD, pack_get _ (by omega), Option.getD_some, ofInt_nb, byteB_get _ (by omega), List.getD, List.getElem?_drop]
    unfold fillUp
    by_cases hl : i < L.length
    · rw [List.getElem?_append_left hl, show 8 * (i / 8) + (7 - (7 - i % 8)) = i by omega, List.getElem?_eq_getElem hl]; rfl
    · rw [List.getElem?_append_right (by omega), List.getElem?_replicate, if_pos (by omega), List.getElem?_eq_none (by omega)]; rfl
  · rw [List.getElem?_eq_none (by rw [unpack_len, pack_len]; omega), List.getElem?_eq_none (by rw [fillUp_len]; omega)]
theorem bit_int : ∀ (b : _root_.Fin 256) (s : _root_.Fin 8), iand .u8 (ishr .u8 (b.val : Int) (s.val : Int)) 1 = (if (BitVec.ofNat 8 b.val).getLsbD s.val then 1 else 0) := by decide +kernel
theorem bit_int' {c : Int} (hc : 0 ≤ c ∧ c < 256) {s : Nat} (hs : s < 8) : IntKind.wrap .u64 (iand .u8 (ishr .u8 c (s : Int)) 1) = (if (BitVec.ofInt 8 c).getLsbD s then 1 else 0) := by
  obtain ⟨b, rfl⟩ := Int.eq_ofNat_of_zero_le hc.1
  have := bit_int ⟨b, by omega⟩ ⟨s, hs⟩
  simp only at this
  rw [this, BitVec.ofInt_natCast]
  split <;> rfl
/-- The number that bits are. -/
def valOf (l : List Bool) : BitVec 64 := l.foldl (fun v b => (v <<< 1) ||| (BitVec.ofBool b).setWidth 64) 0
theorem valOf_concat (l : List Bool) (b : Bool) : valOf (l ++ [b]) = (valOf l <<< 1) ||| (BitVec.ofBool b).setWidth 64 := by unfold valOf; rw [List.foldl_append]; rfl
theorem val_step (v : BitVec 64) (b : Bool) : ior .u64 (ishl .u64 (nb v) 1) (if b then 1 else 0) = nb ((v <<< 1) ||| (BitVec.ofBool b).setWidth 64) := by
  have e1 : ishl .u64 (nb v) ((1 : Nat) : Int) = nb (v <<< 1) := ishl_nb (k := .u64) rfl v 1 (show 1 ≤ 64 by omega)
  have e2 : (if b then (1 : Int) else 0) = nb ((BitVec.ofBool b).setWidth 64) := by cases b <;> rfl
  rw [e2, show (1 : Int) = ((1 : Nat) : Int) from rfl, e1]
  exact ior_nb (k := .u64) rfl _ _
theorem valOf_get : ∀ (n : Nat) (l : List Bool), l.length = n → ∀ i, i < 64 → (valOf l).getLsbD i = (decide (i < n) && l.getD (n - 1 - i) false) := by
  intro n
  induction n with
  | zero =>
    intro l hl i hi
    have : l = [] := List.eq_nil_of_length_eq_zero hl
    subst this; simp [valOf]
  | succ n ih =>
    intro l hl i hi
    have hne : l ≠ [] := by intro h; subst h; simp at hl
    obtain ⟨m, b, rfl⟩ : ∃ m b, l = m ++ [b] := ⟨l.dropLast, l.getLast hne, (List.dropLast_concat_getLast hne).symm⟩
    simp only [List.length_append, List.length_cons, List.length_nil] at hl
    rw [valOf_concat, BitVec.getLsbD_or, BitVec.getLsbD_shiftLeft, decide_eq_true hi, BitVec.getLsbD_setWidth, decide_eq_true hi, BitVec.getLsbD_ofBool]
    by_cases h0 : i = 0
    · subst h0
      have e : (m ++ [b]).getD (n + 1 - 1 - 0) false = b := by rw [List.getD, List.getElem?_append_right (by omega), show n + 1 - 1 - 0 - m.length = 0 by omega]; rfl
      rw [e]; simp
    · rw [ih m (by omega) (i - 1) (by omega)]
      have e : (m ++ [b]).getD (n + 1 - 1 - i) false = if i < n + 1 then m.getD (n - 1 - (i - 1)) false else (m ++ [b]).getD (n + 1 - 1 - i) false := by
        split
        · rw [List.getD, List.getElem?_append_left (by omega), ← List.getD]; congr 1; omega
        · rfl
      rw [e]
      by_cases h1 : i < n + 1
      · rw [if_pos h1, decide_eq_true (show i - 1 < n by omega), decide_eq_true h1, decide_eq_false (show ¬i < 1 by omega)]
        simp [h0]
      · rw [if_neg h1, decide_eq_false (show ¬i - 1 < n by omega), decide_eq_false h1]
        simp [h0]
theorem valOf_bitsN_get (v : BitVec 64) (w : Nat) {i : Nat} (hi : i < 64) : (valOf (bitsN v w)).getLsbD i = (decide (i < w) && v.getLsbD i) := by
  rw [valOf_get w _ (seg_len v w w) i hi]
  by_cases h : i < w
  · rw [decide_eq_true h, List.getD, seg_get v (by omega), Option.getD_some, show w - 1 - (w - 1 - i) = i by omega]
  · rw [decide_eq_false h]; simp
end Go.X
