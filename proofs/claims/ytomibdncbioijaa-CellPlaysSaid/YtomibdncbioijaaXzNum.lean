/- Numbers of a kind without signs, and rows of bits. -/
import Derived.Test.YtomibdncbioijaaXzPl
set_option linter.unusedVariables false
set_option linter.unusedSimpArgs false
namespace Go.X
open Go Go.RowKit

/-- The number that the bits are. -/
abbrev nb {n : Nat} (v : BitVec n) : Int := (v.toNat : Int)
theorem ofInt_nb {n : Nat} (v : BitVec n) : BitVec.ofInt n (nb v) = v := by
  rw [nb, BitVec.ofInt_natCast, BitVec.ofNat_toNat, BitVec.setWidth_eq]
theorem wrap_nb {k : IntKind} (hk : k.signed = false) (x : Int) : k.wrap x = nb (BitVec.ofInt k.bits x) := by
  unfold IntKind.wrap
  rw [hk]
  simp only [Bool.false_and, Bool.false_eq_true, if_false, nb, BitVec.toNat_ofInt]
  rw [Int.toNat_of_nonneg (Int.emod_nonneg _ (by cases k <;> decide))]
  rfl
theorem wrap_nat {k : IntKind} (hk : k.signed = false) (v : BitVec k.bits) : k.wrap ((v.toNat : Nat) : Int) = nb v := by
  rw [wrap_nb hk, ofInt_nb]
theorem ixor_nb {k : IntKind} (hk : k.signed = false) (a b : BitVec k.bits) : ixor k (nb a) (nb b) = nb (a ^^^ b) := by
  unfold ixor; rw [ofInt_nb, ofInt_nb, wrap_nat hk]
theorem iand_nb {k : IntKind} (hk : k.signed = false) (a b : BitVec k.bits) : iand k (nb a) (nb b) = nb (a &&& b) := by
  unfold iand; rw [ofInt_nb, ofInt_nb, wrap_nat hk]
theorem ior_nb {k : IntKind} (hk : k.signed = false) (a b : BitVec k.bits) : ior k (nb a) (nb b) = nb (a ||| b) := by
  unfold ior; rw [ofInt_nb, ofInt_nb, wrap_nat hk]
theorem ishr_nb {k : IntKind} (a : BitVec k.bits) (n : Nat) (hn : n ≤ k.bits) : ishr k (nb a) (n : Int) = nb (a >>> n) := by
  unfold ishr
  rw [Int.toNat_natCast, Nat.min_eq_left hn, nb, nb, BitVec.toNat_ushiftRight, Nat.shiftRight_eq_div_pow]
  rw [Int.fdiv_eq_ediv_of_nonneg _ (by have : (0 : Int) < 2 ^ n := by exact Int.pow_pos (by decide)
                                       omega)]
  norm_cast
theorem neg_nb {k : IntKind} (hk : k.signed = false) (a : BitVec k.bits) : k.wrap (0 - nb a) = nb (-a) := by
  rw [wrap_nb hk, Int.zero_sub, BitVec.ofInt_neg, ofInt_nb]
theorem mul_nb {k : IntKind} (hk : k.signed = false) (a b : BitVec k.bits) : k.wrap (nb a * nb b) = nb (a * b) := by
  rw [wrap_nb hk, BitVec.ofInt_mul, ofInt_nb, ofInt_nb]
theorem nb_inj {n : Nat} {a b : BitVec n} (h : nb a = nb b) : a = b := BitVec.eq_of_toNat_eq (by exact_mod_cast h)
theorem nb_lt {n : Nat} (a : BitVec n) : nb a < 2 ^ n := by have := a.isLt; rw [nb]; exact_mod_cast this
theorem nb_ofInt {n : Nat} {x : Int} (h0 : 0 ≤ x) (h1 : x < 2 ^ n) : nb (BitVec.ofInt n x) = x := by
  have h2 : (0 : Int) < ((2 ^ n : Nat) : Int) := by exact_mod_cast Nat.two_pow_pos n
  have h3 : ((2 ^ n : Nat) : Int) = 2 ^ n := by norm_cast
  rw [nb, BitVec.toNat_ofInt, Int.toNat_of_nonneg (Int.emod_nonneg _ (by omega)), h3]
  exact Int.emod_eq_of_lt h0 h1
end Go.X
