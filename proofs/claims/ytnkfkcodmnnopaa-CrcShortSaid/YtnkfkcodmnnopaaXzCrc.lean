/- The sum of bytes: what the program's function and the reference's come to, and the plain laws of it. -/
import Derived.Test.YtnkfkcodmnnopaaXzNum
set_option linter.unusedVariables false
set_option linter.unusedSimpArgs false
namespace Go.X
open Go Go.RowKit

def crcR (s : BitVec 16) : BitVec 16 := (s >>> 1) ^^^ (33800#16 &&& -(s &&& 1#16))
def crcN : Nat → BitVec 16 → BitVec 16
  | 0, s => s
  | n + 1, s => crcN n (crcR s)
def crcB (s : BitVec 16) (x : Int) : BitVec 16 := crcN 8 (s ^^^ BitVec.ofInt 16 x)
def crcL (s : BitVec 16) (xs : List Int) : BitVec 16 := xs.foldl crcB s

theorem neg_bit (s : BitVec 16) : -(s &&& 1#16) = if s.getLsbD 0 then 65535#16 else 0#16 := by
  have : s &&& 1#16 = if s.getLsbD 0 then 1#16 else 0#16 := by
    apply BitVec.eq_of_toNat_eq
    rw [BitVec.toNat_and]
    have : s.getLsbD 0 = decide (s.toNat % 2 = 1) := by rw [BitVec.getLsbD, Nat.testBit_zero]
    rw [this]
    have e : s.toNat &&& (1#16).toNat = s.toNat % 2 := Nat.and_one_is_mod _
    rw [e]
    rcases Nat.mod_two_eq_zero_or_one s.toNat with h | h <;> simp [h]
  rw [this]
  split <;> rfl
theorem crcR_if (s : BitVec 16) : crcR s = if s.getLsbD 0 then (s >>> 1) ^^^ 33800#16 else s >>> 1 := by
  unfold crcR
  rw [neg_bit]
  split
  · rfl
  · rw [show (33800#16 &&& 0#16) = 0#16 from rfl, BitVec.xor_zero]
theorem crcR_xor (a b : BitVec 16) : crcR (a ^^^ b) = crcR a ^^^ crcR b := by
  rw [crcR_if, crcR_if, crcR_if, BitVec.getLsbD_xor, BitVec.ushiftRight_xor_distrib]
  cases a.getLsbD 0 <;> cases b.getLsbD 0 <;> simp only [Bool.xor_false, Bool.xor_true, Bool.not_false, Bool.not_true, Bool.false_eq_true, if_true, if_false]
  · rw [BitVec.xor_assoc]
  · rw [BitVec.xor_assoc, BitVec.xor_assoc, BitVec.xor_comm (b >>> 1)]
  · rw [BitVec.xor_assoc, BitVec.xor_comm 33800#16, BitVec.xor_assoc, BitVec.xor_self, BitVec.xor_zero]
theorem crcR_inj {a : BitVec 16} (h : crcR a = 0#16) : a = 0#16 := by
  rw [crcR_if] at h
  split at h
  · exfalso
    have h2 : (a >>> 1) = 33800#16 := by
      have := congrArg (· ^^^ 33800#16) h
      simpa [BitVec.xor_assoc] using this
    have h3 := congrArg BitVec.toNat h2
    rw [BitVec.toNat_ushiftRight, Nat.shiftRight_eq_div_pow] at h3
    have := a.isLt
    simp at h3
    omega
  · rename_i hb
    have h3 := congrArg BitVec.toNat h
    rw [BitVec.toNat_ushiftRight, Nat.shiftRight_eq_div_pow] at h3
    have h4 : a.toNat % 2 = 0 := by
      rcases Nat.mod_two_eq_zero_or_one a.toNat with h | h
      · exact h
      · exfalso; apply hb; rw [BitVec.getLsbD, Nat.testBit_zero]; simp [h]
    apply BitVec.eq_of_toNat_eq
    simp at h3 ⊢
    omega
theorem crcN_xor : ∀ (n : Nat) (a b : BitVec 16), crcN n (a ^^^ b) = crcN n a ^^^ crcN n b
  | 0, _, _ => rfl
  | n + 1, a, b => by rw [crcN, crcN, crcN, crcR_xor, crcN_xor n]
theorem crcN_zero : ∀ n, crcN n 0#16 = 0#16
  | 0 => rfl
  | n + 1 => by rw [crcN, show crcR 0#16 = 0#16 by decide, crcN_zero n]
theorem crcN_inj : ∀ (n : Nat) {a : BitVec 16}, crcN n a = 0#16 → a = 0#16
  | 0, _, h => h
  | n + 1, _, h => crcR_inj (crcN_inj n h)
theorem crcL_nil (s : BitVec 16) : crcL s [] = s := rfl
theorem crcL_cons (s : BitVec 16) (x : Int) (xs : List Int) : crcL s (x :: xs) = crcL (crcB s x) xs := rfl
theorem crcL_append (s : BitVec 16) (xs ys : List Int) : crcL s (xs ++ ys) = crcL (crcL s xs) ys := List.foldl_append
/-- Two rows, changed by one another. -/
theorem crcL_xor : ∀ (xs ys zs : List Int) (a b : BitVec 16), xs.length = ys.length → zs.length = xs.length → (∀ (i : Nat) (x y z : Int), xs[i]? = some x → ys[i]? = some y → zs[i]? = some z → BitVec.ofInt 16 z = BitVec.ofInt 16 x ^^^ BitVec.ofInt 16 y) →
    crcL (a ^^^ b) zs = crcL a xs ^^^ crcL b ys := by
  intro xs
  induction xs with
  | nil => intro ys zs a b h1 h2 _; cases ys <;> cases zs <;> simp_all [crcL]
  | cons x xs ih =>
    intro ys zs a b h1 h2 h3
    cases ys with
    | nil => simp at h1
    | cons y ys =>
      cases zs with
      | nil => simp at h2
      | cons z zs =>
        rw [crcL_cons, crcL_cons, crcL_cons]
        have e : crcB (a ^^^ b) z = crcB a x ^^^ crcB b y := by
          unfold crcB
          rw [h3 0 x y z rfl rfl rfl, ← crcN_xor]
          congr 1
          rw [BitVec.xor_assoc, BitVec.xor_assoc]
          congr 1
          rw [← BitVec.xor_assoc, ← BitVec.xor_assoc, BitVec.xor_comm b]
        rw [e]
        exact ih ys zs _ _ (by simpa using h1) (by simpa using h2) fun i x' y' z' hx hy hz => h3 (i + 1) x' y' z' (by simpa using hx) (by simpa using hy) (by simpa using hz)
theorem crcL_zeros (n : Nat) : crcL 0#16 (List.replicate n 0) = 0#16 := by
  induction n with
  | zero => rfl
  | succ n ih => rw [List.replicate_succ, crcL_cons, show crcB 0#16 0 = 0#16 by decide, ih]
theorem crcL_inj : ∀ (xs : List Int) (a b : BitVec 16), crcL a xs = crcL b xs → a = b := by
  intro xs
  induction xs with
  | nil => intro a b h; exact h
  | cons x xs ih =>
    intro a b h
    have := ih _ _ h
    unfold crcB at this
    have h2 : crcN 8 ((a ^^^ BitVec.ofInt 16 x) ^^^ (b ^^^ BitVec.ofInt 16 x)) = 0#16 := by rw [crcN_xor, this, BitVec.xor_self]
    have h3 := crcN_inj _ h2
    have h4 : a ^^^ b = 0#16 := by
      rw [← h3, BitVec.xor_assoc]
      congr 1
      rw [BitVec.xor_comm b, ← BitVec.xor_assoc, BitVec.xor_self, BitVec.zero_xor]
    have := congrArg (· ^^^ b) h4
    simpa [BitVec.xor_assoc] using this

/-! ### one round, as the code has it -/
theorem roundI (s : BitVec 16) : ixor .u16 (ishr .u16 (nb s) 1) (iand .u16 33800 (IntKind.wrap .u16 (0 - (iand .u16 (nb s) 1)))) = nb (crcR s) := by
  have e1 : iand .u16 (nb s) 1 = nb (s &&& 1#16) := iand_nb (k := .u16) rfl s 1#16
  rw [e1]
  have e2 : IntKind.wrap .u16 (0 - nb (s &&& 1#16)) = nb (-(s &&& 1#16)) := neg_nb (k := .u16) rfl _
  rw [e2]
  have e3 : iand .u16 33800 (nb (-(s &&& 1#16))) = nb (33800#16 &&& -(s &&& 1#16)) := iand_nb (k := .u16) rfl 33800#16 _
  rw [e3]
  have e4 : ishr .u16 (nb s) 1 = nb (s >>> 1) := ishr_nb (k := .u16) s 1 (by decide)
  rw [e4]
  exact ixor_nb (k := .u16) rfl _ _
theorem byteI (s : BitVec 16) (x : Int) : ixor .u16 (nb s) (IntKind.wrap .u16 x) = nb (s ^^^ BitVec.ofInt 16 x) := by
  rw [wrap_nb (k := .u16) rfl x]
  exact ixor_nb (k := .u16) rfl s _
end Go.X
