/- What the functions of the sums come to. -/
import Derived.Test.YtnkfkcodmnnopaaXzTa
import Derived.Test.YtnkfkcodmnnopaaXzCrc
import Derived.Test.YtnkfkcodmnnopaaXzGo
set_option linter.unusedVariables false
set_option linter.unusedSimpArgs false
namespace Go.X
open Go Go.RowKit Go.Proofs
noncomputable abbrev C := xC Try.prog good
abbrev Bytes (H : Heap) (a : Option Addr) (n k : Nat) (xs : List Int) : Prop := Sl H 1 a n k (xs.map (Value.int .u8))
theorem Bytes.n {H : Heap} {a : Option Addr} {n k : Nat} {xs : List Int} (h : Bytes H a n k xs) : xs.length = n := by have := h.len; simpa using this
theorem Bytes.get {H : Heap} {b o : Nat} {n k : Nat} {xs : List Int} (h : Bytes H (some ⟨b, o, none⟩) n k xs) {i : Nat} {x : Int} (hx : xs[i]? = some x) : ldc H b (o + i * 1) = some (.int .u8 x) :=
  h.ld1 (by rw [List.getElem?_map, hx]; rfl)
theorem i64 {n : Int} (h0 : -9223372036854775808 ≤ n) (h1 : n ≤ 9223372036854775807) : IntKind.i64.wrap n = n := IntWalk.i64_in n ⟨h0, h1⟩

namespace F11
theorem l1 {a : Nat} {o n k : Nat} {t7 t8 : Int} {H : Heap} {r : Value × Heap} : ∀ (m : Nat) (s : BitVec 16) (i : Int), i + m = 8 → 0 ≤ i →
    L0 (nb (crcN m s)) (some ⟨a, o, none⟩) n k t7 (IntKind.wrap .i64 (t8 + 1)) H r → L1 (nb s) a o n k t7 t8 i H r := by
  intro m
  induction m with
  | zero =>
    intro s i hi h0 h
    refine L1_step ?_
    rw [if_neg (by omega)]
    exact h
  | succ m ih =>
    intro s i hi h0 h
    refine L1_step ?_
    rw [if_pos (by omega), roundI, i64 (by omega) (by omega)]
    exact ih _ _ (by omega) (by omega) h
theorem l0 {H : Heap} {a : Option Addr} {n k : Nat} {xs : List Int} (hs : Bytes H a n k xs) (hn : n < 4611686018427387904) : ∀ (rest : List Int) (j : Nat) (s : BitVec 16), xs.drop j = rest → j + rest.length = n →
    L0 (nb s) a n k (n : Int) (j : Int) H (.int .u16 (nb (crcL s rest)), H) := by
  intro rest
  induction rest with
  | nil =>
    intro j s hd hj
    simp only [List.length_nil] at hj
    refine L0_step ?_
    rw [if_neg (by omega)]
    rfl
  | cons x rest ih =>
    intro j s hd hj
    simp only [List.length_cons] at hj
    obtain ⟨b, o, rfl⟩ := hs.at (by omega)
    refine L0_step ?_
    rw [if_pos (by omega)]
    have hx : xs[j]? = some x := by have := congrArg (·[0]?) hd; simpa using this
    refine ⟨b, o, rfl, by omega, by omega, x, by rw [Int.toNat_natCast]; exact hs.get hx, ?_⟩
    rw [byteI]
    refine l1 8 _ 0 rfl (by decide) ?_
    rw [i64 (by omega) (by omega)]
    have := ih (j + 1) (crcB s x) (by rw [← List.drop_drop, hd]; rfl) (by omega)
    rw [crcL_cons]
    exact_mod_cast this
theorem ok {H : Heap} {a : Option Addr} {n k : Nat} {xs : List Int} (hs : Bytes H a n k xs) (hn : n < 4611686018427387904) : C 11 [.slice a n k] H = some (.int .u16 (nb (crcL 0#16 xs)), H) := by
  refine call ?_
  have := l0 hs hn xs 0 0#16 (by simp) (by have := hs.n; omega)
  exact this
end F11

namespace F12
theorem ok (H : Heap) : ∃ H', C 12 [] H = some (.bool true, H') ∧ Keep H.next H H' := by
  refine ⟨H.push (.row [.int .u8 49, .int .u8 50, .int .u8 51, .int .u8 52, .int .u8 53, .int .u8 54, .int .u8 55, .int .u8 56, .int .u8 57] true), ?_, Keep.push _ (Nat.le_refl _)⟩
  refine call ⟨_, rfl, ?_, _, _, F11.ok (n := 9) (xs := [49, 50, 51, 52, 53, 54, 55, 56, 57]) (Own.new (z := 1) rfl).sl (by omega), ?_⟩
  · exact (Own.new (n := 9) (z := 1) rfl).mark
  · have : crcL 0#16 [49, 50, 51, 52, 53, 54, 55, 56, 57] = 8585#16 := by decide +kernel
    rw [this]; rfl
end F12

namespace F25
theorem ok {H : Heap} {a : Option Addr} {n k : Nat} {vs : List Value} (hs : Sl H 1 a n k vs) (hn : n ≤ 140737488355328) : ∃ a' k' H', C 25 [.slice a n k] H = some (.slice a' n k', H') ∧ Own H.next H' 1 a' n k' vs ∧ Keep H.next H H' := by
  by_cases h0 : a.isNone = true
  · have : a = none := by simpa using h0
    subst this
    obtain ⟨hl, ⟨_, rfl, rfl⟩ | ⟨h, _⟩ | ⟨b, o, h, _⟩⟩ := hs
    · refine ⟨none, 0, H, call ?_, ⟨hl, .inl ⟨rfl, rfl, rfl⟩⟩, Keep.refl _ _⟩
      rw [if_pos h0]
    · cases h
    · cases h
  · have e := Own.new (H := H) (z := 1) (n := 0) (vs := []) rfl
    have hk := Keep.push (H := H) (.row [] true) (Nat.le_refl H.next)
    obtain ⟨a', k', H', h1, h2, h3⟩ := e.append (by_ := 1) (hs.keep hk) (by decide) (by simp) (by omega) (by omega)
    rw [Nat.zero_add] at h1 h2
    refine ⟨a', k', H', call ?_, by simpa using h2, hk.trans h3⟩
    rw [if_neg h0]
    exact ⟨_, rfl, _, _, _, _, h1, rfl⟩
end F25

/-- The two bytes of a sum. -/
def lo8 (s : BitVec 16) : Int := IntKind.wrap .u8 (nb s)
def hi8 (s : BitVec 16) : Int := IntKind.wrap .u8 (ishr .u16 (nb s) 8)
def crcA (xs : List Int) : List Int := xs ++ [lo8 (crcL 0#16 xs), hi8 (crcL 0#16 xs)]
namespace F17
theorem ok {H : Heap} {a : Option Addr} {n k : Nat} {xs : List Int} (hs : Bytes H a n k xs) (hn : n + 2 ≤ 140737488355328) : ∃ a' k' H', C 17 [.slice a n k] H = some (.slice a' (n + 2) k', H') ∧ Own H.next H' 1 a' (n + 2) k' ((crcA xs).map (Value.int .u8)) ∧ Keep H.next H H' := by
  obtain ⟨a1, k1, H1, c1, o1, p1⟩ := F25.ok hs (by omega)
  have hp := Keep.push (H := H1) (.row [.int .u8 (lo8 (crcL 0#16 xs)), .int .u8 (hi8 (crcL 0#16 xs))] true) (Nat.le_refl H1.next)
  have e := (Own.new (H := H1) (z := 1) (n := 2) (vs := [.int .u8 (lo8 (crcL 0#16 xs)), .int .u8 (hi8 (crcL 0#16 xs))]) rfl).sl
  obtain ⟨a', k', H', h1, h2, h3⟩ := (o1.keep hp).append (by_ := 1) e (by decide) (Nat.le_trans p1.next hp.next) (by omega) (by omega)
  refine ⟨a', k', H', call ⟨_, _, F11.ok hs (by omega), _, _, _, _, c1, _, rfl, _, _, _, _, h1, rfl⟩, ?_, p1.trans ((hp.weak p1.next).trans h3)⟩
  simpa [crcA] using h2
end F17

namespace F26
theorem l0 {H : Heap} {a a1 : Option Addr} {n k k1 : Nat} {xs ys : List Int} (hs : Bytes H a n k xs) (hs1 : Bytes H a1 n k1 ys) (hn : n < 4611686018427387904) : ∀ (rest rest1 : List Int) (j : Nat), xs.drop j = rest → ys.drop j = rest1 → j + rest.length = n →
    L0 a n k a1 n k1 (n : Int) (j : Int) H (.bool (decide (rest = rest1)), H) := by
  intro rest
  induction rest with
  | nil =>
    intro rest1 j hd hd1 hj
    simp only [List.length_nil] at hj
    have : rest1 = [] := List.eq_nil_of_length_eq_zero (by rw [← hd1, List.length_drop, hs1.n]; omega)
    subst this
    refine L0_step ?_
    rw [if_neg (by omega)]
    rfl
  | cons x rest ih =>
    intro rest1 j hd hd1 hj
    simp only [List.length_cons] at hj
    cases rest1 with
    | nil => have := congrArg List.length hd1; rw [List.length_drop, hs1.n] at this; simp at this; omega
    | cons y rest1 =>
      obtain ⟨b, o, rfl⟩ := hs.at (by omega)
      obtain ⟨b1, o1, rfl⟩ := hs1.at (by omega)
      refine L0_step ?_
      rw [if_pos (by omega)]
      have hx : xs[j]? = some x := by have := congrArg (·[0]?) hd; simpa using this
      have hy : ys[j]? = some y := by have := congrArg (·[0]?) hd1; simpa using this
      refine ⟨b, o, rfl, by omega, by omega, x, by rw [Int.toNat_natCast]; exact hs.get hx, b1, o1, rfl, by omega, by omega, y, by rw [Int.toNat_natCast]; exact hs1.get hy, ?_⟩
      by_cases hxy : x = y
      · rw [if_pos hxy, i64 (by omega) (by omega)]
        have := ih rest1 (j + 1) (by rw [← List.drop_drop, hd]; rfl) (by rw [← List.drop_drop, hd1]; rfl) (by omega)
        have e : decide (x :: rest = y :: rest1) = decide (rest = rest1) := by simp [hxy]
        rw [e]
        exact_mod_cast this
      · rw [if_neg hxy]
        have e : decide (x :: rest = y :: rest1) = false := by simp [hxy]
        rw [e]
theorem ok {H : Heap} {a a1 : Option Addr} {n n1 k k1 : Nat} {xs ys : List Int} (hs : Bytes H a n k xs) (hs1 : Bytes H a1 n1 k1 ys) (hn : n < 4611686018427387904) : C 26 [.slice a n k, .slice a1 n1 k1] H = some (.bool (decide (xs = ys)), H) := by
  refine call ?_
  by_cases h : n = n1
  · subst h
    rw [if_pos rfl]
    exact l0 hs hs1 hn xs ys 0 (by simp) (by simp) (by have := hs.n; omega)
  · rw [if_neg (by omega)]
    have : ¬ xs = ys := by rintro rfl; exact h (hs.n.symm.trans hs1.n)
    simp [this]
end F26

def goodB (xs : List Int) : Bool := decide (2 ≤ xs.length ∧ crcA (xs.take (xs.length - 2)) = xs)
namespace F19
theorem ok {H : Heap} {a : Option Addr} {n k : Nat} {xs : List Int} (hs : Bytes H a n k xs) (hn : n ≤ 140737488355328) : ∃ H', C 19 [.slice a n k] H = some (.bool (goodB xs), H') ∧ Keep H.next H H' := by
  have hx := hs.n
  by_cases h2 : 2 ≤ n
  · obtain ⟨a1, k1, hp, hs1⟩ := hs.part none (some ((n - 2 : Nat) : Int)) 0 (n - 2) (.inl ⟨rfl, rfl⟩) (.inr rfl) (by omega) (by omega)
    have hs1 : Bytes H a1 (n - 2) k1 (xs.take (n - 2)) := by simpa [← List.map_take] using hs1
    obtain ⟨a', k', H', c, o, p⟩ := F17.ok hs1 (by omega)
    have c2 := F26.ok o.sl (hs.keep p) (by omega)
    refine ⟨H', call ?_, p⟩
    rw [i64 (by omega) (by omega), if_pos (by omega)]
    refine ⟨_, _, _, ?_, _, _, _, _, c, _, _, c2, ?_⟩
    · rw [show ((n : Int) - 2) = ((n - 2 : Nat) : Int) by omega]; simpa using hp
    · unfold goodB
      rw [hx]
      simp [h2]
  · refine ⟨H, call ?_, Keep.refl _ _⟩
    rw [i64 (by omega) (by omega), if_neg (by omega)]
    unfold goodB
    rw [hx]
    simp [h2]
end F19

theorem zeros_good (n : Nat) : goodB (List.replicate (2 + n) 0) = true := by
  unfold goodB crcA
  rw [List.length_replicate, List.take_replicate, Nat.min_eq_left (by omega), crcL_zeros]
  refine decide_eq_true ⟨by omega, ?_⟩
  have e1 : lo8 0#16 = 0 := by decide
  have e2 : hi8 0#16 = 0 := by decide
  rw [e1, e2, show 2 + n - 2 = n by omega, show [(0 : Int), 0] = List.replicate 2 0 from rfl, List.replicate_append_replicate, Nat.add_comm]
theorem tmod50 (x : Int) : ∃ m : Nat, IntKind.wrap .i64 (Int.tmod (IntKind.wrap .u64 x) 50) = (m : Int) ∧ m < 50 := by
  have h0 : 0 ≤ IntKind.wrap .u64 x := by rw [wrap_nb (k := .u64) rfl]; exact Int.natCast_nonneg _
  have h1 : 0 ≤ Int.tmod (IntKind.wrap .u64 x) 50 := Int.tmod_nonneg _ h0
  have h2 : Int.tmod (IntKind.wrap .u64 x) 50 < 50 := Int.tmod_lt_of_pos _ (by decide)
  refine ⟨(Int.tmod (IntKind.wrap .u64 x) 50).toNat, ?_, by omega⟩
  rw [i64 (by omega) (by omega), Int.toNat_of_nonneg h1]
namespace F10
theorem ok (a0 a1 : Int) (H : Heap) : ∃ H', C 10 [.int .u8 a0, .int .i64 a1] H = some (.bool true, H') := by
  obtain ⟨m, hm, hm5⟩ := tmod50 a1
  have e0 : IntKind.wrap .i64 (2 + (IntKind.wrap .i64 (Int.tmod (IntKind.wrap .u64 a1) 50))) = ((2 + m : Nat) : Int) := by rw [hm, i64 (by omega) (by omega)]; omega
  let H1 := H.push (.row (zerosL [.int .u8 0] (2 + m)) true)
  have o1 : Own H.next H1 1 (some ⟨H.next, 0, none⟩) (2 + m) (UNK 1) ((List.replicate (2 + m) (0 : Int)).map (Value.int .u8)) := by
    have := Own.new (H := H) (z := 1) (n := 2 + m) (vs := zerosL [.int .u8 0] (2 + m)) (by rw [zerosL1]; simp)
    rw [List.map_replicate, ← zerosL1]
    exact this
  obtain ⟨H2, c2, k2⟩ := F19.ok (H := H1) (a := none) (n := 0) (k := 0) (xs := []) ⟨rfl, .inl ⟨rfl, rfl, rfl⟩⟩ (by omega)
  have o3 := (Own.new (H := H2) (z := 1) (n := 1) (vs := [.int .u8 a0]) rfl).sl
  obtain ⟨H4, c4, k4⟩ := F19.ok (H := H2.push (.row [.int .u8 a0] true)) (xs := [a0]) o3 (by omega)
  have hp := Keep.push (H := H2) (.row [.int .u8 a0] true) (Nat.le_refl H2.next)
  have o4 := ((o1.keep k2).keep hp).keep k4
  obtain ⟨H5, c5, k5⟩ := F19.ok o4.sl (by omega)
  have c6 := F11.ok (o4.keep k5).sl (by omega)
  obtain ⟨H7, c7, k7⟩ := F12.ok H5
  refine ⟨H7, call ?_⟩
  rw [e0]
  refine ⟨_, _, pmk_eq (n := 2 + m) (by omega) (by omega), rfl, _, _, c2, ?_⟩
  rw [if_neg (by decide)]
  refine ⟨_, rfl, _, _, c4, ?_⟩
  rw [if_neg (by simp [goodB])]
  refine ⟨_, _, c5, ?_⟩
  rw [if_pos (zeros_good m)]
  refine ⟨_, _, c6, ?_⟩
  rw [crcL_zeros, if_pos (show nb 0#16 = 0 from rfl)]
  exact ⟨_, _, c7, rfl⟩
end F10
end Go.X
