/- Bytes and texts. -/
import Derived.Test.YtomibdncbioijaaXzGo
import Derived.Test.YtomibdncbioijaaXzK
import Derived.Test.YtomibdncbioijaaXzNum
import Derived.Laws.Strings
set_option linter.unusedVariables false
set_option linter.unusedSimpArgs false
namespace Go.X
open Go Go.RowKit
def IsB (xs : List Int) : Prop := ∀ x ∈ xs, 0 ≤ x ∧ x < 256
theorem IsB.of {xs : List Int} (h : ∀ n ∈ xs, (Lit.int .u8 n).wf = true) : IsB xs := by
  intro x hx
  have := h x hx
  simp only [Lit.wf, Bool.and_eq_true, decide_eq_true_eq, IntKind.min, IntKind.max, IntKind.signed, IntKind.bits] at this
  simp at this
  omega
theorem IsB.get {xs : List Int} (h : IsB xs) {i : Nat} {x : Int} (hx : xs[i]? = some x) : 0 ≤ x ∧ x < 256 := h x (List.mem_of_getElem? hx)
theorem u8_wf {x : Int} (h : (Lit.int .u8 x).wf = true) : 0 ≤ x ∧ x < 256 := IsB.of (xs := [x]) (by simpa using h) x (by simp)
theorem i64_wf {x : Int} (h : (Lit.int .i64 x).wf = true) : -9223372036854775808 ≤ x ∧ x ≤ 9223372036854775807 := by
  simp only [Lit.wf, Bool.and_eq_true, decide_eq_true_eq, IntKind.min, IntKind.max, IntKind.signed, IntKind.bits] at h
  simp at h
  omega
theorem str_inj {xs ys : List Int} (hx : IsB xs) (hy : IsB ys) (h : (strOfNums xs).toList = (strOfNums ys).toList) : xs = ys := by
  rw [ByteArray.toList_eq, ByteArray.toList_eq, strOfNums_data, strOfNums_data] at h
  induction xs generalizing ys with
  | nil => cases ys with
    | nil => rfl
    | cons y ys => simp at h
  | cons x xs ih =>
    cases ys with
    | nil => simp at h
    | cons y ys =>
      simp only [List.map_cons, List.cons.injEq] at h
      have bx := hx x (by simp)
      have bY := hy y (by simp)
      have e := congrArg UInt8.toNat h.1
      simp only [UInt8.toNat_ofNat'] at e
      rw [ih (fun z hz => hx z (by simp [hz])) (fun z hz => hy z (by simp [hz])) h.2]
      have : x = y := by
        simp only [Nat.reducePow] at e
        omega
      rw [this]
theorem str_eq {xs ys : List Int} (hx : IsB xs) (hy : IsB ys) : ((strOfNums xs).toList == (strOfNums ys).toList) = decide (xs = ys) := by
  by_cases h : xs = ys
  · rw [h]; simp
  · rw [decide_eq_false h]
    exact beq_eq_false_iff_ne.2 fun e => h (str_inj hx hy e)
/-- A remainder, as the laws draw it. -/
theorem modN (x : Int) (M : Int) (h0 : 0 < M) (h1 : M ≤ 9223372036854775807) : ∃ m : Nat, IntKind.wrap .i64 (Int.tmod (IntKind.wrap .u64 x) M) = (m : Int) ∧ (m : Int) < M := by
  have g0 : 0 ≤ IntKind.wrap .u64 x := by rw [wrap_nb (k := .u64) rfl]; exact Int.natCast_nonneg _
  have g1 : 0 ≤ Int.tmod (IntKind.wrap .u64 x) M := Int.tmod_nonneg _ g0
  have g2 : Int.tmod (IntKind.wrap .u64 x) M < M := Int.tmod_lt_of_pos _ h0
  refine ⟨(Int.tmod (IntKind.wrap .u64 x) M).toNat, ?_, by omega⟩
  rw [i64 (by omega) (by omega), Int.toNat_of_nonneg g1]
end Go.X
