/- The sum of bytes: what the program's function and the reference's come to, and the plain laws of it. -/
import Derived.Test.YtgcodmnajbcoaaaXzNum
set_option linter.unusedVariables false
set_option linter.unusedSimpArgs false
namespace Go.X
open Go Go.RowKit

def crcR (s : BitVec 16) : BitVec 16 := (s >>> 1) ^^^ (33800#16 &&& -(s &&& 1#16))
def crcN : Nat → BitVec 16 → BitVec 16
  | 0, s => s
  | n + 1, s => crcN n (crcR s)
def crcB (s : BitVec 16) (x : Int) : BitVec 16 := crcN 8 (s ^^^ BitVec.ofInt 16 x)
def crcL (s : BitVec 16) (xs : List Int) : BitVec 16 := xs.foldl crcB s

theorem neg_bit (s : BitVec 16) : -(s &&& 1#16) = if s.getLsbD 0 then 65535#16 else 0#16 := by
  have : s &&& 1#16 = if s.getLsbD 0 then 1#16 else 0#16 := by
    apply BitVec.eq_of_toNat_eq
    rw [BitVec.toNat_and]
    have : s.getLsbD 0 = decide (s.toNat % 2 = 1) := by rw [BitVec.getLsbD, Nat.testBit_zero]
    rw [this]
    have e : s.toNat &&& (1#16).toNat = s.toNat % 2 := Nat.and_one_is_mod _
    rw [e]
    rcases Nat.mod_two_eq_zero_or_one s.toNat with h | h <;> simp [h]
  rw [this]
  split <;> rfl
theorem crcR_if (s : BitVec 16) : crcR s = if s.getLsbD 0 then (s >>> 1) ^^^ 33800#16 else s >>> 1 := by
  unfold crcR
  rw [neg_bit]
  split
  · rfl
  · rw [show (33800#16 &&& 0#16) = 0#16 from rfl, BitVec.xor_zero]
theorem crcR_xor (a b : BitVec 16) : crcR (a ^^^ b) = crcR a ^^^ crcR b := by
  rw [crcR_if, crcR_if, crcR_if, BitVec.getLsbD_xor, BitVec.ushiftRight_xor_distrib]
  cases a.getLsbD 0 <;> cases b.getLsbD 0 <;> simp only [Bool.xor_false, Bool.xor_true, Bool.not_false, Bool.not_true, Bool.false_eq_true, if_true, if_false]
  · rw [BitVec.xor_assoc]
  · rw [BitVec.xor_assoc, BitVec.xor_assoc, BitVec.xor_comm (b >>> 1)]
  · rw [BitVec.xor_assoc, BitVec.xor_comm 33800#16, BitVec.xor_assoc, BitVec.xor_self, BitVec.xor_zero]
theorem crcR_inj {a : BitVec 16} (h : crcR a = 0#16) : a = 0#16 := by
  rw [crcR_if] at h
  split at h
  · exfalso
    have h2 : (a >>> 1) = 33800#16 := by
      have := congrArg (· ^^^ 33800#16) h
      simpa [BitVec.xor_assoc] using this
    have h3 := congrArg BitVec.toNat h2
    rw [BitVec.toNat_ushiftRight, Nat.shiftRight_eq_div_pow] at h3
    have := a.isLt
    simp at h3
    omega
  · rename_i hb
    have h3 := congrArg BitVec.toNat h
    rw [BitVec.toNat_ushiftRight, Nat.shiftRight_eq_div_pow] at h3
    have h4 : a.toNat % 2 = 0 := by
      rcases Nat.mod_two_eq_zero_or_one a.toNat with h | h
      · exact h
      · exfalso; apply hb; rw [BitVec.getLsbD, Nat.testBit_zero]; simp [h]
    apply BitVec.eq_of_toNat_eq
    simp at h3 ⊢
    omega
theorem crcN_xor : ∀ (n : Nat) (a b : BitVec 16), crcN n (a ^^^ b) = crcN n a ^^^ crcN n b
  | 0, _, _ => rfl
  | n + 1, a, b => by rw [crcN, crcN, crcN, crcR_xor, crcN_xor n]
theorem crcN_zero : ∀ n, crcN n 0#16 = 0#16
  | 0 => rfl
  | n + 1 => by rw [crcN, show crcR 0#16 = 0#16 by decide, crcN_zero n]
theorem crcN_inj : ∀ (n : Nat) {a : BitVec 16}, crcN n a = 0#16 → a = 0#16
  | 0, _, h => h
  | n + 1, _, h => crcR_inj (crcN_inj n h)
theorem crcL_nil (s : BitVec 16) : crcL s [] = s := rfl
theorem crcL_cons (s : BitVec 16) (x : Int) (xs : List Int) : crcL s (x :: xs) = crcL (crcB s x) xs := rfl
theorem crcL_append (s : BitVec 16) (xs ys : List Int) : crcL s (xs ++ ys) = crcL (crcL s xs) ys := List.foldl_append
/-- Two rows, changed by one another. -/
theorem crcL_xor : ∀ (xs ys zs : List Int) (a b : BitVec 16), xs.length = ys.length → zs.length = xs.length → (∀ (i : Nat) (x y z : Int), xs[i]? = some x → ys[i]? = some y → zs[i]? = some z → BitVec.ofInt 16 z = BitVec.ofInt 16 x ^^^ BitVec.ofInt 16 y) →
    crcL (a ^^^ b) zs = crcL a xs ^^^ crcL b ys := by
  intro xs
  induction xs with
  | nil => intro ys zs a b h1 h2 _; cases ys <;> cases zs <;> simp_all [crcL]
  | cons x xs ih =>
    intro ys zs a b h1 h2 h3
    cases ys with
    | nil => simp at h1
    | cons y ys =>
      cases zs with
      | nil => simp at h2
      | cons z zs =>
        rw [crcL_cons, crcL_cons, crcL_cons]
        have e : crcB (a ^^^ b) z = crcB a x ^^^ crcB b y := by
          unfold crcB
          rw [h3 0 x y z rfl rfl rfl, ← crcN_xor]
          congr 1
          rw [BitVec.xor_assoc, BitVec.xor_assoc]
          congr 1
          rw [← BitVec.xor_assoc, ← BitVec.xor_assoc, BitVec.xor_comm b]
        rw [e]
        exact ih ys zs _ _ (by simpa using h1) (by simpa using h2) fun i x' y' z' hx hy hz => h3 (i + 1) x' y' z' (by simpa using hx) (by simpa using hy) (by simpa using hz)
theorem crcL_zeros (n : Nat) : crcL 0#16 (List.replicate n 0) = 0#16 := by
  induction n with
  | zero => rfl
  | succ n ih => rw [List.replicate_succ, crcL_cons, show crcB 0#16 0 = 0#16 by decide, ih]
theorem crcL_inj : ∀ (xs : List Int) (a b : BitVec 16), crcL a xs = crcL b xs → a = b := by
  intro xs
  induction xs with
  | nil => intro a b h; exact h
  | cons x xs ih =>
    intro a b h
    have := ih _ _ h
    unfold crcB at this
    have h2 : crcN 8 ((a ^^^ BitVec.ofInt 16 x) ^^^ (b ^^^ BitVec.ofInt 16 x)) = 0#16 := by rw [crcN_xor, this, BitVec.xor_self]
    have h3 := crcN_inj _ h2
    have h4 : a ^^^ b = 0#16 := by
      rw [← h3, BitVec.xor_assoc]
      congr 1
      rw [BitVec.xor_comm b, ← BitVec.xor_assoc, BitVec.xor_self, BitVec.zero_xor]
    have := congrArg (· ^^^ b) h4
    simpa [BitVec.xor_assoc] using this

/-! ### one round, as the code has it -/
theorem roundI (s : BitVec 16) : ixor .u16 (ishr .u16 (nb s) 1) (iand .u16 33800 (IntKind.wrap .u16 (0 - (iand .u16 (nb s) 1)))) = nb (crcR s) := by
  have e1 : iand .u16 (nb s) 1 = nb (s &&& 1#16) := iand_nb (k := .u16) rfl s 1#16
  rw [e1]
  have e2 : IntKind.wrap .u16 (0 - nb (s &&& 1#16)) = nb (-(s &&& 1#16)) := neg_nb (k := .u16) rfl _
  rw [e2]
  have e3 : iand .u16 33800 (nb (-(s &&& 1#16))) = nb (33800#16 &&& -(s &&& 1#16)) := iand_nb (k := .u16) rfl 33800#16 _
  rw [e3]
  have e4 : ishr .u16 (nb s) 1 = nb (s >>> 1) := ishr_nb (k := .u16) s 1 (by decide)
  rw [e4]
  exact ixor_nb (k := .u16) rfl _ _
theorem byteI (s : BitVec 16) (x : Int) : ixor .u16 (nb s) (IntKind.wrap .u16 x) = nb (s ^^^ BitVec.ofInt 16 x) := by
  rw [wrap_nb (k := .u16) rfl x]
  exact ixor_nb (k := .u16) rfl s _
theorem ofInt16_nb8 (v : BitVec 8) : BitVec.ofInt 16 (nb v) = v.setWidth 16 := by
  apply BitVec.eq_of_toNat_eq
  rw [nb, BitVec.ofInt_natCast, BitVec.toNat_ofNat, BitVec.toNat_setWidth]
theorem byte_nb {x : Int} (h0 : 0 ≤ x) (h1 : x < 256) : x = nb (BitVec.ofInt 8 x) := (nb_ofInt (n := 8) h0 (by simpa using h1)).symm
theorem ixor8_eq {x y : Int} (hx : 0 ≤ x ∧ x < 256) (hy : 0 ≤ y ∧ y < 256) : ixor .u8 x y = nb (BitVec.ofInt 8 x ^^^ BitVec.ofInt 8 y) := by
  conv => lhs; rw [byte_nb hx.1 hx.2, byte_nb hy.1 hy.2]
  exact ixor_nb (k := .u8) rfl _ _
theorem ixor8_range (x y : Int) : 0 ≤ ixor .u8 x y ∧ ixor .u8 x y < 256 := by
  unfold ixor
  rw [IntKind.wrap_u8]
  omega
theorem ixor8_16 {x y : Int} (hx : 0 ≤ x ∧ x < 256) (hy : 0 ≤ y ∧ y < 256) : BitVec.ofInt 16 (ixor .u8 x y) = BitVec.ofInt 16 x ^^^ BitVec.ofInt 16 y := by
  rw [ixor8_eq hx hy, ofInt16_nb8, BitVec.setWidth_xor]
  conv => rhs; rw [byte_nb hx.1 hx.2, byte_nb hy.1 hy.2, ofInt16_nb8, ofInt16_nb8]
/-! ### two bytes behind, two bytes changed -/
def lo8 (s : BitVec 16) : Int := IntKind.wrap .u8 (nb s)
def hi8 (s : BitVec 16) : Int := IntKind.wrap .u8 (ishr .u16 (nb s) 8)
def crcA (xs : List Int) : List Int := xs ++ [lo8 (crcL 0#16 xs), hi8 (crcL 0#16 xs)]
def goodB (xs : List Int) : Bool := decide (2 ≤ xs.length ∧ crcA (xs.take (xs.length - 2)) = xs)
theorem shift8 : ∀ h : _root_.Fin 256, crcN 8 (BitVec.ofNat 16 (h.val * 256)) = BitVec.ofNat 16 h.val := by decide +kernel
theorem high8 : ∀ h : _root_.Fin 256, (crcN 8 (BitVec.ofNat 16 h.val)).toNat < 256 → h.val = 0 := by decide +kernel
theorem lo8_eq (s : BitVec 16) : lo8 s = ((s.toNat % 256 : Nat) : Int) := by
  unfold lo8; rw [IntKind.wrap_u8, nb]; omega
theorem hi8_eq (s : BitVec 16) : hi8 s = ((s.toNat / 256 : Nat) : Int) := by
  unfold hi8
  have e : ishr .u16 (nb s) 8 = nb (s >>> 8) := ishr_nb (k := .u16) s 8 (by decide)
  have h := s.isLt
  rw [e, IntKind.wrap_u8, nb, BitVec.toNat_ushiftRight, Nat.shiftRight_eq_div_pow]
  simp only [Nat.reducePow] at *
  omega
theorem crcL_two (s : BitVec 16) : crcL s [lo8 s, hi8 s] = 0#16 := by
  have h := s.isLt
  simp only [Nat.reducePow] at h
  show crcN 8 (crcN 8 (s ^^^ BitVec.ofInt 16 (lo8 s)) ^^^ BitVec.ofInt 16 (hi8 s)) = 0#16
  rw [lo8_eq, hi8_eq, BitVec.ofInt_natCast, BitVec.ofInt_natCast]
  have e1 : s ^^^ BitVec.ofNat 16 (s.toNat % 256) = BitVec.ofNat 16 (s.toNat / 256 * 256) := by
    apply BitVec.eq_of_toNat_eq
    rw [BitVec.toNat_xor, BitVec.toNat_ofNat, BitVec.toNat_ofNat]
    simp only [Nat.reducePow]
    rw [Nat.mod_eq_of_lt (by omega : s.toNat % 256 < 65536), Nat.mod_eq_of_lt (by omega : s.toNat / 256 * 256 < 65536)]
    apply Nat.eq_of_testBit_eq
    intro i
    rw [Nat.testBit_xor, show (256 : Nat) = 2 ^ 8 from rfl, Nat.testBit_mod_two_pow, Nat.testBit_mul_two_pow, Nat.testBit_div_two_pow]
    by_cases hi : i < 8
    · simp [hi]
      intro h8; omega
    · simp [hi, show 8 ≤ i by omega]
  rw [e1, shift8 ⟨s.toNat / 256, by omega⟩, BitVec.xor_self]
  exact crcN_zero 8
theorem crcA_sum (xs : List Int) : crcL 0#16 (crcA xs) = 0#16 := by
  unfold crcA; rw [crcL_append, crcL_two]
theorem crcA_good (xs : List Int) : goodB (crcA xs) = true := by
  unfold goodB
  refine decide_eq_true ⟨by simp [crcA], ?_⟩
  have : (crcA xs).take ((crcA xs).length - 2) = xs := by unfold crcA; simp
  rw [this]
theorem good_sum {xs : List Int} (h : goodB xs = true) : crcL 0#16 xs = 0#16 := by
  unfold goodB at h
  obtain ⟨_, h2⟩ := of_decide_eq_true h
  rw [← h2, crcA_sum]
theorem two_zero {x y : Int} (hx : 0 ≤ x ∧ x < 256) (hy : 0 ≤ y ∧ y < 256) (h : crcL 0#16 [x, y] = 0#16) : x = 0 ∧ y = 0 := by
  have h1 : crcN 8 (crcN 8 (0#16 ^^^ BitVec.ofInt 16 x) ^^^ BitVec.ofInt 16 y) = 0#16 := h
  have h2 := crcN_inj _ h1
  rw [BitVec.zero_xor] at h2
  obtain ⟨a, rfl⟩ := Int.eq_ofNat_of_zero_le hx.1
  obtain ⟨b, rfl⟩ := Int.eq_ofNat_of_zero_le hy.1
  have ha : a < 256 := by omega
  have hb : b < 256 := by omega
  rw [BitVec.ofInt_natCast, BitVec.ofInt_natCast] at h2
  have h3 : crcN 8 (BitVec.ofNat 16 a) = BitVec.ofNat 16 b := by
    have := congrArg (· ^^^ BitVec.ofNat 16 b) h2
    simpa [BitVec.xor_assoc] using this
  have h4 := high8 ⟨a, ha⟩ (by rw [h3, BitVec.toNat_ofNat]; simp only [Nat.reducePow]; omega)
  simp only at h4
  subst h4
  have h5 : crcN 8 (BitVec.ofNat 16 0) = 0#16 := by decide
  rw [h5] at h3
  have h6 := congrArg BitVec.toNat h3
  rw [BitVec.toNat_ofNat] at h6
  simp only [Nat.reducePow] at h6
  simp at h6
  omega
/-- Two bytes side by side, changed. -/
theorem told {cs ds : List Int} {p : Nat} {x y : Int} (hc : crcL 0#16 cs = 0#16) (hcs : ∀ c ∈ cs, 0 ≤ c ∧ c < 256) (hx : 0 ≤ x ∧ x < 256) (hy : 0 ≤ y ∧ y < 256) (hp : p + 1 < cs.length) (hne : ¬(x = 0 ∧ y = 0))
    (hd : ds = (cs.set p (ixor .u8 cs[p] x)).set (p + 1) (ixor .u8 cs[p + 1] y)) : goodB ds = false := by
  rw [Bool.eq_false_iff]
  intro hg
  have hs := good_sum hg
  apply hne
  generalize he : List.replicate p (0 : Int) ++ ([x, y] ++ List.replicate (cs.length - p - 2) 0) = e
  have hel : e.length = cs.length := by rw [← he]; simp; omega
  have h16 : ∀ z : Int, BitVec.ofInt 16 z = BitVec.ofInt 16 z ^^^ BitVec.ofInt 16 0 := fun z => by simp
  have hmem : ∀ i (h : i < cs.length), 0 ≤ cs[i] ∧ cs[i] < 256 := fun i h => hcs _ (List.getElem_mem h)
  have key := crcL_xor cs e ds 0#16 0#16 hel.symm (by rw [hd]; simp) (by
    intro i a b c ha hb hcc
    have hi := (List.getElem?_eq_some_iff.1 ha).1
    have ha' := (List.getElem?_eq_some_iff.1 ha).2
    rw [hd, List.getElem?_set, List.getElem?_set] at hcc
    rw [← he, List.getElem?_append] at hb
    simp only [List.length_replicate, List.length_set] at hb hcc
    by_cases h1 : p + 1 = i
    · subst h1
      rw [if_pos rfl, if_pos hi] at hcc
      rw [if_neg (by omega), show p + 1 - p = 1 by omega] at hb
      simp at hb hcc
      subst hb; subst hcc
      rw [← ha']
      exact ixor8_16 (hmem _ hi) hy
    · rw [if_neg h1] at hcc
      by_cases h2 : p = i
      · subst h2
        rw [if_pos rfl, if_pos (by omega)] at hcc
        rw [if_neg (by omega), Nat.sub_self] at hb
        simp at hb hcc
        subst hb; subst hcc
        rw [← ha']
        exact ixor8_16 (hmem _ hi) hx
      · rw [if_neg h2, ha] at hcc
        cases hcc
        have hb0 : b = 0 := by
          split at hb
          · rw [List.getElem?_replicate] at hb
            split at hb <;> first | (cases hb; rfl) | (cases hb; done)
          · rw [List.getElem?_append, if_neg (by simp; omega), List.getElem?_replicate] at hb
            split at hb <;> first | (cases hb; rfl) | (cases hb; done)
        subst hb0
        exact h16 _)
  rw [BitVec.xor_self, hs, hc, BitVec.zero_xor, ← he, crcL_append, crcL_append, crcL_zeros] at key
  have z := crcL_zeros (cs.length - p - 2)
  have := crcL_inj _ _ _ (z.trans key)
  exact two_zero hx hy this.symm
end Go.X
