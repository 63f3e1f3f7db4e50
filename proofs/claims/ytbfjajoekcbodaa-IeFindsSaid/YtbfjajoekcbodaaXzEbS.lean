/- What the readers of bits come to, as plain functions. -/
import Derived.Test.YtbfjajoekcbodaaXzEb3
set_option linter.unusedVariables false
set_option linter.unusedSimpArgs false
set_option maxRecDepth 20000
namespace Go.X
open Go Go.RowKit Go.Proofs
/-- What taking bytes comes to. -/
def textS (R : List Bool) (e n : Int) : List Int × List Bool × Int := if n ≤ 0 ∨ e ≠ 0 then ([], R, e) else if (R.length : Int) < 8 * n then ([], [], 2) else (bytesOf R n.toNat, R.drop (8 * n.toNat), e)
def takeS (R : List Bool) (e w : Int) : Int × List Bool × Int := if w < 0 ∨ 64 < w ∨ e ≠ 0 then (0, R, e) else if (R.length : Int) < w then (0, [], 2) else (nb (valOf (R.take w.toNat)), R.drop w.toNat, e)
def evenS (R : List Bool) (e : Int) : List Bool × Int := if ∀ b ∈ R.take (R.length % 8), b = false then (R.drop (R.length % 8), e) else ([], 3)
section
variable {H : Heap} {p : Nat} {a : Option Addr} {R : List Bool} {e : Int}
theorem F60.all (h : RM H p a R e) (n : Int) : ∃ a2 a' k' H', Cc 60 [.pointer (some ⟨p, 0, Option.none⟩), .int .i64 n] H = some (.slice a' (textS R e n).1.length k', H') ∧ OwnI .u8 H.next H' a' (textS R e n).1.length k' (textS R e n).1 ∧ RM H' p a2 (textS R e n).2.1 (textS R e n).2.2 ∧ Fd p a a2 H H' := by
  unfold textS
  by_cases h0 : n ≤ 0 ∨ e ≠ 0
  · rw [if_pos h0]
    exact ⟨a, Option.none, 0, H, F60.none h h0, OwnI.nil, h, Fd.refl _⟩
  · rw [if_neg h0]
    have he : e = 0 := by omega
    subst he
    by_cases hs : (R.length : Int) < 8 * n
    · rw [if_pos hs]
      obtain ⟨H', c, r, f⟩ := F60.short h (by omega) hs
      exact ⟨Option.none, Option.none, 0, H', c, OwnI.nil, r, f⟩
    · rw [if_neg hs]
      obtain ⟨a', k', H', c, r, o, g⟩ := F60.text h (n := n.toNat) (by omega) (by omega)
      rw [Int.toNat_of_nonneg (by omega)] at c
      refine ⟨a, a', k', H', ?_, ?_, r, ⟨g, fun _ h => h⟩⟩
      · rw [bytesOf_len]; exact c
      · rw [bytesOf_len]; exact o
theorem F49.all (h : RM H p a R e) (w : Int) : ∃ a2 H', Cc 49 [.pointer (some ⟨p, 0, none⟩), .int .i64 w] H = some (.int .u64 (takeS R e w).1, H') ∧ RM H' p a2 (takeS R e w).2.1 (takeS R e w).2.2 ∧ Fd p a a2 H H' := by
  unfold takeS
  by_cases h0 : w < 0 ∨ 64 < w ∨ e ≠ 0
  · rw [if_pos h0]
    exact ⟨a, H, F49.bad h h0, h, Fd.refl _⟩
  · rw [if_neg h0]
    have he : e = 0 := by omega
    subst he
    obtain ⟨m, rfl⟩ := Int.eq_ofNat_of_zero_le (show 0 ≤ w by omega)
    by_cases hs : (R.length : Int) < (m : Int)
    · rw [if_pos hs]
      obtain ⟨H', c, r, f⟩ := F49.short h (w := m) (by omega) (by omega)
      exact ⟨none, H', c, r, f⟩
    · rw [if_neg hs]
      obtain ⟨H', c, r, f⟩ := F49.take h (w := m) (by omega) (by omega)
      exact ⟨a, H', c, r, f⟩
end
end Go.X
