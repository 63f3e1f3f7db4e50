/- What the functions of the sums come to. -/
import Derived.Test.YtnkfkcodmnnopaaXzTa
import Derived.Test.YtnkfkcodmnnopaaXzCrc
import Derived.Test.YtnkfkcodmnnopaaXzGo
set_option linter.unusedVariables false
set_option linter.unusedSimpArgs false
namespace Go.X
open Go Go.RowKit Go.Proofs
noncomputable abbrev C := xC Try.prog good
abbrev Bytes (H : Heap) (a : Option Addr) (n k : Nat) (xs : List Int) : Prop := Sl H 1 a n k (xs.map (Value.int .u8))
theorem Bytes.n {H : Heap} {a : Option Addr} {n k : Nat} {xs : List Int} (h : Bytes H a n k xs) : xs.length = n := by have := h.len; simpa using this
theorem Bytes.get {H : Heap} {b o : Nat} {n k : Nat} {xs : List Int} (h : Bytes H (some ⟨b, o, none⟩) n k xs) {i : Nat} {x : Int} (hx : xs[i]? = some x) : ldc H b (o + i * 1) = some (.int .u8 x) :=
  h.ld1 (by rw [List.getElem?_map, hx]; rfl)
theorem i64 {n : Int} (h0 : -9223372036854775808 ≤ n) (h1 : n ≤ 9223372036854775807) : IntKind.i64.wrap n = n := IntWalk.i64_in n ⟨h0, h1⟩

namespace F11
theorem l1 {a : Nat} {o n k : Nat} {t7 t8 : Int} {H : Heap} {r : Value × Heap} : ∀ (m : Nat) (s : BitVec 16) (i : Int), i + m = 8 → 0 ≤ i →
    L0 (nb (crcN m s)) (some ⟨a, o, none⟩) n k t7 (IntKind.wrap .i64 (t8 + 1)) H r → L1 (nb s) a o n k t7 t8 i H r := by
  intro m
  induction m with
  | zero =>
    intro s i hi h0 h
    refine L1_step ?_
    rw [if_neg (by omega)]
    exact h
  | succ m ih =>
    intro s i hi h0 h
    refine L1_step ?_
    rw [if_pos (by omega), roundI, i64 (by omega) (by omega)]
    exact ih _ _ (by omega) (by omega) h
theorem l0 {H : Heap} {a : Option Addr} {n k : Nat} {xs : List Int} (hs : Bytes H a n k xs) (hn : n < 4611686018427387904) : ∀ (rest : List Int) (j : Nat) (s : BitVec 16), xs.drop j = rest → j + rest.length = n →
    L0 (nb s) a n k (n : Int) (j : Int) H (.int .u16 (nb (crcL s rest)), H) := by
  intro rest
  induction rest with
  | nil =>
    intro j s hd hj
    simp only [List.length_nil] at hj
    refine L0_step ?_
    rw [if_neg (by omega)]
    rfl
  | cons x rest ih =>
    intro j s hd hj
    simp only [List.length_cons] at hj
    obtain ⟨b, o, rfl⟩ := hs.at (by omega)
    refine L0_step ?_
    rw [if_pos (by omega)]
    have hx : xs[j]? = some x := by have := congrArg (·[0]?) hd; simpa using this
    refine ⟨b, o, rfl, by omega, by omega, x, by rw [Int.toNat_natCast]; exact hs.get hx, ?_⟩
    rw [byteI]
    refine l1 8 _ 0 rfl (by decide) ?_
    rw [i64 (by omega) (by omega)]
    have := ih (j + 1) (crcB s x) (by rw [← List.drop_drop, hd]; rfl) (by omega)
    rw [crcL_cons]
    exact_mod_cast this
theorem ok {H : Heap} {a : Option Addr} {n k : Nat} {xs : List Int} (hs : Bytes H a n k xs) (hn : n < 4611686018427387904) : C 11 [.slice a n k] H = some (.int .u16 (nb (crcL 0#16 xs)), H) := by
  refine call ?_
  have := l0 hs hn xs 0 0#16 (by simp) (by have := hs.n; omega)
  exact this
end F11

namespace F12
theorem ok (H : Heap) : ∃ H', C 12 [] H = some (.bool true, H') ∧ Keep H.next H H' := by
  refine ⟨H.push (.row [.int .u8 49, .int .u8 50, .int .u8 51, .int .u8 52, .int .u8 53, .int .u8 54, .int .u8 55, .int .u8 56, .int .u8 57] true), ?_, Keep.push _ (Nat.le_refl _)⟩
  refine call ⟨_, rfl, ?_, _, _, F11.ok (n := 9) (xs := [49, 50, 51, 52, 53, 54, 55, 56, 57]) (Own.new (z := 1) rfl).sl (by omega), ?_⟩
  · exact (Own.new (n := 9) (z := 1) rfl).mark
  · have : crcL 0#16 [49, 50, 51, 52, 53, 54, 55, 56, 57] = 8585#16 := by decide +kernel
    rw [this]; rfl
end F12

namespace F25
theorem ok {H : Heap} {a : Option Addr} {n k : Nat} {vs : List Value} (hs : Sl H 1 a n k vs) (hn : n ≤ 140737488355328) : ∃ a' k' H', C 25 [.slice a n k] H = some (.slice a' n k', H') ∧ Own H.next H' 1 a' n k' vs ∧ Keep H.next H H' := by
  by_cases h0 : a.isNone = true
  · have : a = none := by simpa using h0
    subst this
    obtain ⟨hl, ⟨_, rfl, rfl⟩ | ⟨h, _⟩ | ⟨b, o, h, _⟩⟩ := hs
    · refine ⟨none, 0, H, call ?_, ⟨hl, .inl ⟨rfl, rfl, rfl⟩⟩, Keep.refl _ _⟩
      rw [if_pos h0]
    · cases h
    · cases h
  · have e := Own.new (H := H) (z := 1) (n := 0) (vs := []) rfl
    have hk := Keep.push (H := H) (.row [] true) (Nat.le_refl H.next)
    obtain ⟨a', k', H', h1, h2, h3⟩ := e.append (by_ := 1) (hs.keep hk) (by decide) (by simp) (by omega) (by omega)
    rw [Nat.zero_add] at h1 h2
    refine ⟨a', k', H', call ?_, by simpa using h2, hk.trans h3⟩
    rw [if_neg h0]
    exact ⟨_, rfl, _, _, _, _, h1, rfl⟩
end F25

namespace F17
theorem ok {H : Heap} {a : Option Addr} {n k : Nat} {xs : List Int} (hs : Bytes H a n k xs) (hn : n + 2 ≤ 140737488355328) : ∃ a' k' H', C 17 [.slice a n k] H = some (.slice a' (n + 2) k', H') ∧ Own H.next H' 1 a' (n + 2) k' ((crcA xs).map (Value.int .u8)) ∧ Keep H.next H H' := by
  obtain ⟨a1, k1, H1, c1, o1, p1⟩ := F25.ok hs (by omega)
  have hp := Keep.push (H := H1) (.row [.int .u8 (lo8 (crcL 0#16 xs)), .int .u8 (hi8 (crcL 0#16 xs))] true) (Nat.le_refl H1.next)
  have e := (Own.new (H := H1) (z := 1) (n := 2) (vs := [.int .u8 (lo8 (crcL 0#16 xs)), .int .u8 (hi8 (crcL 0#16 xs))]) rfl).sl
  obtain ⟨a', k', H', h1, h2, h3⟩ := (o1.keep hp).append (by_ := 1) e (by decide) (Nat.le_trans p1.next hp.next) (by omega) (by omega)
  refine ⟨a', k', H', call ⟨_, _, F11.ok hs (by omega), _, _, _, _, c1, _, rfl, _, _, _, _, h1, rfl⟩, ?_, p1.trans ((hp.weak p1.next).trans h3)⟩
  simpa [crcA] using h2
end F17

namespace F26
theorem l0 {H : Heap} {a a1 : Option Addr} {n k k1 : Nat} {xs ys : List Int} (hs : Bytes H a n k xs) (hs1 : Bytes H a1 n k1 ys) (hn : n < 4611686018427387904) : ∀ (rest rest1 : List Int) (j : Nat), xs.drop j = rest → ys.drop j = rest1 → j + rest.length = n →
    L0 a n k a1 n k1 (n : Int) (j : Int) H (.bool (decide (rest = rest1)), H) := by
  intro rest
  induction rest with
  | nil =>
    intro rest1 j hd hd1 hj
    simp only [List.length_nil] at hj
    have : rest1 = [] := List.eq_nil_of_length_eq_zero (by rw [← hd1, List.length_drop, hs1.n]; omega)
    subst this
    refine L0_step ?_
    rw [if_neg (by omega)]
    rfl
  | cons x rest ih =>
    intro rest1 j hd hd1 hj
    simp only [List.length_cons] at hj
    cases rest1 with
    | nil => have := congrArg List.length hd1; rw [List.length_drop, hs1.n] at this; simp at this; omega
    | cons y rest1 =>
      obtain ⟨b, o, rfl⟩ := hs.at (by omega)
      obtain ⟨b1, o1, rfl⟩ := hs1.at (by omega)
      refine L0_step ?_
      rw [if_pos (by omega)]
      have hx : xs[j]? = some x := by have := congrArg (·[0]?) hd; simpa using this
      have hy : ys[j]? = some y := by have := congrArg (·[0]?) hd1; simpa using this
      refine ⟨b, o, rfl, by omega, by omega, x, by rw [Int.toNat_natCast]; exact hs.get hx, b1, o1, rfl, by omega, by omega, y, by rw [Int.toNat_natCast]; exact hs1.get hy, ?_⟩
      by_cases hxy : x = y
      · rw [if_pos hxy, i64 (by omega) (by omega)]
        have := ih rest1 (j + 1) (by rw [← List.drop_drop, hd]; rfl) (by rw [← List.drop_drop, hd1]; rfl) (by omega)
        have e : decide (x :: rest = y :: rest1) = decide (rest = rest1) := by simp [hxy]
        rw [e]
        exact_mod_cast this
      · rw [if_neg hxy]
        have e : decide (x :: rest = y :: rest1) = false := by simp [hxy]
        rw [e]
theorem ok {H : Heap} {a a1 : Option Addr} {n n1 k k1 : Nat} {xs ys : List Int} (hs : Bytes H a n k xs) (hs1 : Bytes H a1 n1 k1 ys) (hn : n < 4611686018427387904) : C 26 [.slice a n k, .slice a1 n1 k1] H = some (.bool (decide (xs = ys)), H) := by
  refine call ?_
  by_cases h : n = n1
  · subst h
    rw [if_pos rfl]
    exact l0 hs hs1 hn xs ys 0 (by simp) (by simp) (by have := hs.n; omega)
  · rw [if_neg (by omega)]
    have : ¬ xs = ys := by rintro rfl; exact h (hs.n.symm.trans hs1.n)
    simp [this]
end F26

namespace F19
theorem ok {H : Heap} {a : Option Addr} {n k : Nat} {xs : List Int} (hs : Bytes H a n k xs) (hn : n ≤ 140737488355328) : ∃ H', C 19 [.slice a n k] H = some (.bool (goodB xs), H') ∧ Keep H.next H H' := by
  have hx := hs.n
  by_cases h2 : 2 ≤ n
  · obtain ⟨a1, k1, hp, hs1⟩ := hs.part none (some ((n - 2 : Nat) : Int)) 0 (n - 2) (.inl ⟨rfl, rfl⟩) (.inr rfl) (by omega) (by omega)
    have hs1 : Bytes H a1 (n - 2) k1 (xs.take (n - 2)) := by simpa [← List.map_take] using hs1
    obtain ⟨a', k', H', c, o, p⟩ := F17.ok hs1 (by omega)
    have c2 := F26.ok o.sl (hs.keep p) (by omega)
    refine ⟨H', call ?_, p⟩
    rw [i64 (by omega) (by omega), if_pos (by omega)]
    refine ⟨_, _, _, ?_, _, _, _, _, c, _, _, c2, ?_⟩
    · rw [show ((n : Int) - 2) = ((n - 2 : Nat) : Int) by omega]; simpa using hp
    · unfold goodB
      rw [hx]
      simp [h2]
  · refine ⟨H, call ?_, Keep.refl _ _⟩
    rw [i64 (by omega) (by omega), if_neg (by omega)]
    unfold goodB
    rw [hx]
    simp [h2]
end F19

theorem zeros_good (n : Nat) : goodB (List.replicate (2 + n) 0) = true := by
  unfold goodB crcA
  rw [List.length_replicate, List.take_replicate, Nat.min_eq_left (by omega), crcL_zeros]
  refine decide_eq_true ⟨by omega, ?_⟩
  have e1 : lo8 0#16 = 0 := by decide
  have e2 : hi8 0#16 = 0 := by decide
  rw [e1, e2, show 2 + n - 2 = n by omega, show [(0 : Int), 0] = List.replicate 2 0 from rfl, List.replicate_append_replicate, Nat.add_comm]
theorem tmod50 (x : Int) : ∃ m : Nat, IntKind.wrap .i64 (Int.tmod (IntKind.wrap .u64 x) 50) = (m : Int) ∧ m < 50 := by
  have h0 : 0 ≤ IntKind.wrap .u64 x := by rw [wrap_nb (k := .u64) rfl]; exact Int.natCast_nonneg _
  have h1 : 0 ≤ Int.tmod (IntKind.wrap .u64 x) 50 := Int.tmod_nonneg _ h0
  have h2 : Int.tmod (IntKind.wrap .u64 x) 50 < 50 := Int.tmod_lt_of_pos _ (by decide)
  refine ⟨(Int.tmod (IntKind.wrap .u64 x) 50).toNat, ?_, by omega⟩
  rw [i64 (by omega) (by omega), Int.toNat_of_nonneg h1]
namespace F10
theorem ok (a0 a1 : Int) (H : Heap) : ∃ H', C 10 [.int .u8 a0, .int .i64 a1] H = some (.bool true, H') := by
  obtain ⟨m, hm, hm5⟩ := tmod50 a1
  have e0 : IntKind.wrap .i64 (2 + (IntKind.wrap .i64 (Int.tmod (IntKind.wrap .u64 a1) 50))) = ((2 + m : Nat) : Int) := by rw [hm, i64 (by omega) (by omega)]; omega
  let H1 := H.push (.row (zerosL [.int .u8 0] (2 + m)) true)
  have o1 : Own H.next H1 1 (some ⟨H.next, 0, none⟩) (2 + m) (UNK 1) ((List.replicate (2 + m) (0 : Int)).map (Value.int .u8)) := by
    have := Own.new (H := H) (z := 1) (n := 2 + m) (vs := zerosL [.int .u8 0] (2 + m)) (by rw [zerosL1]; simp)
    rw [List.map_replicate, ← zerosL1]
    exact this
  obtain ⟨H2, c2, k2⟩ := F19.ok (H := H1) (a := none) (n := 0) (k := 0) (xs := []) ⟨rfl, .inl ⟨rfl, rfl, rfl⟩⟩ (by omega)
  have o3 := (Own.new (H := H2) (z := 1) (n := 1) (vs := [.int .u8 a0]) rfl).sl
  obtain ⟨H4, c4, k4⟩ := F19.ok (H := H2.push (.row [.int .u8 a0] true)) (xs := [a0]) o3 (by omega)
  have hp := Keep.push (H := H2) (.row [.int .u8 a0] true) (Nat.le_refl H2.next)
  have o4 := ((o1.keep k2).keep hp).keep k4
  obtain ⟨H5, c5, k5⟩ := F19.ok o4.sl (by omega)
  have c6 := F11.ok (o4.keep k5).sl (by omega)
  obtain ⟨H7, c7, k7⟩ := F12.ok H5
  refine ⟨H7, call ?_⟩
  rw [e0]
  refine ⟨_, _, pmk_eq (n := 2 + m) (by omega) (by omega), rfl, _, _, c2, ?_⟩
  rw [if_neg (by decide)]
  refine ⟨_, rfl, _, _, c4, ?_⟩
  rw [if_neg (by simp [goodB])]
  refine ⟨_, _, c5, ?_⟩
  rw [if_pos (zeros_good m)]
  refine ⟨_, _, c6, ?_⟩
  rw [crcL_zeros, if_pos (show nb 0#16 = 0 from rfl)]
  exact ⟨_, _, c7, rfl⟩
end F10

namespace F7
theorem ok {H : Heap} {a0 a1 a2 : Option Addr} {n0 n1 n2 k0 k1 k2 : Nat} {x0 x1 x2 : List Int} (s0 : Bytes H a0 n0 k0 x0) (s1 : Bytes H a1 n1 k1 x1) (s2 : Bytes H a2 n2 k2 x2) (y0 : n0 * 1 ≤ 140737488351232) (y1 : n1 * 1 ≤ 140737488351232) (y2 : n2 * 1 ≤ 140737488351232) :
    ∃ H', C 7 [.slice a0 n0 k0, .slice a1 n1 k1, .slice a2 n2 k2] H = some (.bool true, H') := by
  rw [Nat.mul_one] at y0 y1 y2
  have e0 : IntKind.wrap .i64 ((IntKind.wrap .i64 (((n0 : Nat) : Int) + ((n1 : Nat) : Int))) + ((n2 : Nat) : Int)) = (n0 : Int) + n1 + n2 := by rw [i64 (n := (n0 : Int) + n1) (by omega) (by omega), i64 (by omega) (by omega)]
  by_cases hb : (n0 : Int) + n1 + n2 > 2000
  · obtain ⟨H', c, _⟩ := F12.ok H
    refine ⟨H', call ?_⟩
    rw [e0, if_pos hb]
    exact ⟨_, _, c, rfl⟩
  · have c0 := F11.ok s0 (by omega)
    have c1 := F11.ok s1 (by omega)
    have p1 := Keep.push (H := H) (.row [] true) (Nat.le_refl H.next)
    obtain ⟨a5, k5, H5, d5, o5, p5⟩ := (Own.new (H := H) (z := 1) (n := 0) (vs := []) rfl).append (by_ := 1) (s0.keep p1) (by decide) (by simp) (by omega) (by omega)
    have p15 := p1.trans p5
    obtain ⟨a6, k6, H6, d6, o6, p6⟩ := o5.append (by_ := 1) (s2.keep p15) (by decide) p15.next (by omega) (by omega)
    have p16 := p15.trans p6
    have q7 := Keep.push (H := H6) (.row [] true) (Nat.le_refl H6.next)
    have r7 := p16.trans (q7.weak p16.next)
    obtain ⟨a8, k8, H8, d8, o8, p8⟩ := (Own.new (H := H6) (z := 1) (n := 0) (vs := []) rfl).append (by_ := 1) (s1.keep r7) (by decide) (by simp) (by omega) (by omega)
    have q8 := q7.trans p8
    have r8 := p16.trans (q8.weak p16.next)
    obtain ⟨a9, k9, H9, d9, o9, p9⟩ := o8.append (by_ := 1) (s2.keep r8) (by decide) q8.next (by omega) (by omega)
    have o6' := o6.keep (q8.trans p9)
    rw [Nat.zero_add] at d5 d6 d8 d9 o6' o9
    have b6 : Bytes H9 a6 (n0 + n2) k6 (x0 ++ x2) := by have := o6'.sl; unfold Bytes; simpa using this
    have b9 : Bytes H9 a9 (n1 + n2) k9 (x1 ++ x2) := by have := o9.sl; unfold Bytes; simpa using this
    have c6 := F11.ok b6 (by omega)
    have c9 := F11.ok b9 (by omega)
    obtain ⟨a10, k10, H10, c10, o10, p10⟩ := F17.ok b6 (by omega)
    obtain ⟨H11, c11, _⟩ := F12.ok H10
    have el : ((n0 + n2 + 2 : Nat) : Int) = IntKind.wrap .i64 (((n0 + n2 : Nat) : Int) + 2) := by rw [i64 (by omega) (by omega)]; omega
    refine ⟨H11, call ?_⟩
    rw [e0, if_neg hb]
    refine ⟨_, _, c0, _, _, c1, _, rfl, _, _, _, _, d5, _, _, _, _, d6, _, rfl, _, _, _, _, d8, _, _, _, _, d9, _, _, c6, _, _, c9, ?_⟩
    rw [crcL_append, crcL_append]
    by_cases h1 : nb (crcL 0#16 x0) = nb (crcL 0#16 x1)
    · rw [nb_inj h1, if_pos rfl, if_pos rfl]
      refine ⟨_, _, c6, _, _, c9, ?_⟩
      rw [crcL_append, crcL_append, nb_inj h1, if_pos rfl]
      refine ⟨_, _, _, _, c10, ?_⟩
      rw [if_pos el]
      exact ⟨_, _, c11, rfl⟩
    · have h2 : ¬ nb (crcL (crcL 0#16 x0) x2) = nb (crcL (crcL 0#16 x1) x2) := fun h => h1 (by rw [crcL_inj _ _ _ (nb_inj h)])
      rw [if_neg h2]
      by_cases h3 : (n0 : Int) = (n1 : Int)
      · rw [if_pos h3, if_neg h1]
        refine ⟨_, _, _, _, c10, ?_⟩
        rw [if_pos el]
        exact ⟨_, _, c11, rfl⟩
      · rw [if_neg h3, if_neg h1]
        refine ⟨_, _, _, _, c10, ?_⟩
        rw [if_pos el]
        exact ⟨_, _, c11, rfl⟩
end F7

def IsB (xs : List Int) : Prop := ∀ x ∈ xs, 0 ≤ x ∧ x < 256
theorem IsB.of {xs : List Int} (h : ∀ n ∈ xs, (Lit.int .u8 n).wf = true) : IsB xs := by
  intro x hx
  have := h x hx
  simp only [Lit.wf, Bool.and_eq_true, decide_eq_true_eq, IntKind.min, IntKind.max, IntKind.signed, IntKind.bits] at this
  simp at this
  omega
theorem IsB.get {xs : List Int} (h : IsB xs) {i : Nat} {x : Int} (hx : xs[i]? = some x) : 0 ≤ x ∧ x < 256 := h x (List.mem_of_getElem? hx)

namespace F3
/-- The three rows, changed by one another. -/
def three (x0 x1 x2 : List Int) : List Int := List.zipWith (fun x y => ixor .u8 x y) (List.zipWith (fun x y => ixor .u8 x y) x0 x1) x2
theorem three_get {x0 x1 x2 : List Int} {i : Nat} {x y z : Int} (h0 : x0[i]? = some x) (h1 : x1[i]? = some y) (h2 : x2[i]? = some z) : (three x0 x1 x2)[i]? = some (ixor .u8 (ixor .u8 x y) z) := by
  unfold three
  rw [List.getElem?_zipWith, List.getElem?_zipWith, h0, h1, h2]
theorem three_sum {x0 x1 x2 : List Int} (h0 : IsB x0) (h1 : IsB x1) (h2 : IsB x2) (e1 : x0.length = x1.length) (e2 : x0.length = x2.length) : crcL 0#16 (three x0 x1 x2) = crcL 0#16 x0 ^^^ crcL 0#16 x1 ^^^ crcL 0#16 x2 := by
  unfold three
  have l1 : (List.zipWith (fun x y => ixor .u8 x y) x0 x1).length = x0.length := by simp [e1]
  have a := crcL_xor (List.zipWith (fun x y => ixor .u8 x y) x0 x1) x2 (List.zipWith (fun x y => ixor .u8 x y) (List.zipWith (fun x y => ixor .u8 x y) x0 x1) x2) 0#16 0#16 (by rw [l1, e2]) (by simp [e1, ← e2]) (by
    intro i x y z hx hy hz
    rw [List.getElem?_zipWith, hx, hy] at hz
    cases hz
    rw [List.getElem?_zipWith] at hx
    refine ixor8_16 ?_ (h2.get hy)
    cases h3 : x0[i]? with
    | none => rw [h3] at hx; cases hx
    | some p => cases h4 : x1[i]? with
      | none => rw [h3, h4] at hx; cases hx
      | some q => rw [h3, h4] at hx; cases hx; exact ixor8_range p q)
  have b := crcL_xor x0 x1 (List.zipWith (fun x y => ixor .u8 x y) x0 x1) 0#16 0#16 e1 l1 (by
    intro i x y z hx hy hz
    rw [List.getElem?_zipWith, hx, hy] at hz
    cases hz
    exact ixor8_16 (h0.get hx) (h1.get hy))
  rw [BitVec.xor_self] at a b
  rw [a, b]
theorem three_take {x0 x1 x2 : List Int} {k : Nat} : (three x0 x1 x2).take k = three (x0.take k) (x1.take k) (x2.take k) := by
  unfold three
  rw [List.take_zipWith, List.take_zipWith]
variable {base : Nat} {a0 a1 a2 : Option Addr} {n0 n1 n2 k0 k1 k2 : Nat} {x0 x1 x2 : List Int}
theorem l0 (t3 t9 : Int) {b : Nat} {k : Nat} (hk0 : k ≤ n0) (hk1 : k ≤ n1) (hk2 : k ≤ n2) (hk : k ≤ 500) {Q : Value × Heap → Prop} {G : Heap} (hb : G.next ≤ b) (s0 : Bytes G a0 n0 k0 x0) (s1 : Bytes G a1 n1 k1 x1) (s2 : Bytes G a2 n2 k2 x2)
    (hend : ∀ H, Own G.next H 1 (some ⟨b, 0, none⟩) k (UNK 1) ((three (x0.take k) (x1.take k) (x2.take k)).map (Value.int .u8)) → Keep G.next G H → ∃ r, Q r ∧ L0 a0 n0 k0 a1 n1 k1 a2 n2 k2 t3 t9 b 0 k (UNK 1) (k : Int) (k : Int) H r) :
    ∀ (m j : Nat) (H : Heap) (ds : List Int), j + m = k → Own G.next H 1 (some ⟨b, 0, none⟩) k (UNK 1) (ds.map (Value.int .u8)) → Keep G.next G H → (∀ i, i < j → ds[i]? = (three x0 x1 x2)[i]?) →
    ∃ r, Q r ∧ L0 a0 n0 k0 a1 n1 k1 a2 n2 k2 t3 t9 b 0 k (UNK 1) (k : Int) (j : Int) H r := by
  intro m
  induction m with
  | zero =>
    intro j H ds hj ho hp hd
    have : j = k := by omega
    subst this
    refine hend H ?_ hp
    have hl : ds.length = j := by have := ho.len; simpa using this
    have l0 := s0.n
    have l1 := s1.n
    have l2 := s2.n
    have hl3 : (three x0 x1 x2).take j = ds := by
      refine List.ext_getElem? fun i => ?_
      by_cases hi : i < j
      · rw [List.getElem?_take, if_pos hi, hd i hi]
      · rw [List.getElem?_take, if_neg hi, List.getElem?_eq_none (by omega)]
    rw [← three_take, hl3]
    exact ho
  | succ m ih =>
    intro j H ds hj ho hp hd
    have q0 := s0.keep hp
    have q1 := s1.keep hp
    have q2 := s2.keep hp
    have l0 := s0.n
    have l1 := s1.n
    have l2 := s2.n
    obtain ⟨b0, o0, rfl⟩ := s0.at (by omega)
    obtain ⟨b1, o1, rfl⟩ := s1.at (by omega)
    obtain ⟨b2, o2, rfl⟩ := s2.at (by omega)
    have g0 : x0[j]? = some x0[j] := List.getElem?_eq_getElem (by omega)
    have g1 : x1[j]? = some x1[j] := List.getElem?_eq_getElem (by omega)
    have g2 : x2[j]? = some x2[j] := List.getElem?_eq_getElem (by omega)
    obtain ⟨H1, c1, o1', p1, _⟩ := ho.put (i := j) (by omega) (.int .u8 (ixor .u8 (ixor .u8 x0[j] x1[j]) x2[j]))
    have hl : ds.length = k := by have := ho.len; simpa using this
    obtain ⟨r, hq, this⟩ := ih (j + 1) H1 (ds.set j (ixor .u8 (ixor .u8 x0[j] x1[j]) x2[j])) (by omega) (by rw [List.map_set]; exact o1') (hp.trans p1) (by
      intro i hi
      rw [List.getElem?_set]
      by_cases hij : j = i
      · subst hij
        rw [if_pos rfl, if_pos (by omega), three_get g0 g1 g2]
      · rw [if_neg hij]; exact hd i (by omega))
    refine ⟨r, hq, ?_⟩
    refine L0_step ?_
    rw [if_pos (by omega)]
    refine ⟨b0, o0, rfl, by omega, by omega, _, by rw [Int.toNat_natCast]; exact Bytes.get q0 g0, b1, o1, rfl, by omega, by omega, _, by rw [Int.toNat_natCast]; exact Bytes.get q1 g1, b2, o2, rfl, by omega, by omega, _, by rw [Int.toNat_natCast]; exact Bytes.get q2 g2, by omega, by omega, H1, by rw [Int.toNat_natCast]; exact c1, ?_⟩
    rw [i64 (by omega) (by omega)]
    exact_mod_cast this
theorem mins (a b c : Nat) : imin (imin (imin (a : Int) (b : Int)) (c : Int)) 500 = ((min (min (min a b) c) 500 : Nat) : Int) := by
  unfold imin
  split <;> split <;> split <;> omega
theorem ok {H : Heap} (s0 : Bytes H a0 n0 k0 x0) (s1 : Bytes H a1 n1 k1 x1) (s2 : Bytes H a2 n2 k2 x2) (f0 : IsB x0) (f1 : IsB x1) (f2 : IsB x2) (y0 : n0 * 1 ≤ 140737488351232) (y1 : n1 * 1 ≤ 140737488351232) (y2 : n2 * 1 ≤ 140737488351232) (a3 : Int) :
    ∃ H', C 3 [.slice a0 n0 k0, .slice a1 n1 k1, .slice a2 n2 k2, .int .i64 a3] H = some (.bool true, H') := by
  rw [Nat.mul_one] at y0 y1 y2
  obtain ⟨m, hm, hm5⟩ := tmod50 a3
  have em := mins n0 n1 n2
  generalize hk : min (min (min n0 n1) n2) 500 = k at em
  have hz := Own.new (H := H) (z := 1) (n := k) (vs := zerosL [.int .u8 0] k) (by rw [zerosL1]; simp)
  rw [zerosL1, ← List.map_replicate] at hz
  have hp := Keep.push (H := H) (.row ((List.replicate k (0 : Int)).map (Value.int .u8)) true) (Nat.le_refl H.next)
  have z : ∃ r : Value × Heap, (∃ H', r = (.bool true, H')) ∧ L0 a0 n0 k0 a1 n1 k1 a2 n2 k2 a3 (k : Int) H.next 0 k (UNK 1) (k : Int) ((0 : Nat) : Int) (H.push (.row ((List.replicate k (0 : Int)).map (Value.int .u8)) true)) r := by
    refine l0 (G := H) a3 (k : Int) (by omega) (by omega) (by omega) (by omega) (Nat.le_refl _) s0 s1 s2 ?_ k 0 _ (List.replicate k 0) (by omega) hz hp (fun i hi => by omega)
    intro H1 o1 p1
    generalize hD : three (x0.take k) (x1.take k) (x2.take k) = D at o1
    have z2 := Own.new (H := H1) (z := 1) (n := m) (vs := zerosL [.int .u8 0] m) (by rw [zerosL1]; simp)
    have q2 := Keep.push (H := H1) (.row (zerosL [.int .u8 0] m) true) (Nat.le_refl H1.next)
    obtain ⟨a5, k5, H3, d5, o5, p5⟩ := z2.append (by_ := 1) (o1.keep q2).sl (by decide) (by simp) (by omega) (by omega)
    have q3 := q2.trans p5
    have o3 := o1.keep q3
    have p3 := p1.trans (q3.weak p1.next)
    have cd := F11.ok o3.sl (by omega)
    obtain ⟨b0, j0, g0, r0⟩ := (s0.keep p3).part none (some (k : Int)) 0 k (.inl ⟨rfl, rfl⟩) (.inr rfl) (by omega) (by omega)
    obtain ⟨b1, j1, g1, r1⟩ := (s1.keep p3).part none (some (k : Int)) 0 k (.inl ⟨rfl, rfl⟩) (.inr rfl) (by omega) (by omega)
    obtain ⟨b2, j2, g2, r2⟩ := (s2.keep p3).part none (some (k : Int)) 0 k (.inl ⟨rfl, rfl⟩) (.inr rfl) (by omega) (by omega)
    simp only [Nat.zero_mul, List.drop_zero, Nat.sub_zero, Nat.mul_one, ← List.map_take] at r0 r1 r2 g0 g1 g2
    have c0 := F11.ok r0 (by omega)
    have c1 := F11.ok r1 (by omega)
    have c2 := F11.ok r2 (by omega)
    have o5 := o5.sl
    rw [zerosL1, ← List.map_replicate, ← List.map_append] at o5
    have cl := F11.ok o5 (by omega)
    obtain ⟨H9, c9, _⟩ := F12.ok H3
    refine ⟨_, ⟨H9, rfl⟩, L0_step ?_⟩
    rw [if_neg (by omega), hm]
    refine ⟨_, _, pmk_eq (n := m) (by omega) (by omega), rfl, _, _, _, _, d5, _, _, cd, _, _, _, g0, _, _, c0, _, _, _, g1, _, _, c1, _, _, _, g2, _, _, c2, ?_⟩
    have e1 : nb (crcL 0#16 D) = ixor .u16 (ixor .u16 (nb (crcL 0#16 (x0.take k))) (nb (crcL 0#16 (x1.take k)))) (nb (crcL 0#16 (x2.take k))) := by
      have t1 : ixor .u16 (nb (crcL 0#16 (x0.take k))) (nb (crcL 0#16 (x1.take k))) = nb (crcL 0#16 (x0.take k) ^^^ crcL 0#16 (x1.take k)) := ixor_nb (k := .u16) rfl _ _
      rw [t1]
      have t2 : ixor .u16 (nb (crcL 0#16 (x0.take k) ^^^ crcL 0#16 (x1.take k))) (nb (crcL 0#16 (x2.take k))) = nb (crcL 0#16 (x0.take k) ^^^ crcL 0#16 (x1.take k) ^^^ crcL 0#16 (x2.take k)) := ixor_nb (k := .u16) rfl _ _
      have m0 := s0.n
      have m1 := s1.n
      have m2 := s2.n
      rw [t2, ← hD, three_sum (fun x hx => f0 x (List.mem_of_mem_take hx)) (fun x hx => f1 x (List.mem_of_mem_take hx)) (fun x hx => f2 x (List.mem_of_mem_take hx)) (by simp; omega) (by simp; omega)]
    rw [if_pos e1]
    refine ⟨_, _, cl, _, _, cd, ?_⟩
    rw [crcL_append, crcL_zeros, if_pos rfl]
    exact ⟨_, _, c9, rfl⟩
  obtain ⟨r, ⟨H', rfl⟩, hz2⟩ := z
  refine ⟨H', call ?_⟩
  rw [em]
  refine ⟨k, _, pmk_eq (by omega) (by omega), rfl, ?_⟩
  rw [zerosL1, ← List.map_replicate]
  exact hz2
end F3

theorem lo8_range (s : BitVec 16) : 0 ≤ lo8 s ∧ lo8 s < 256 := by rw [lo8_eq]; omega
theorem hi8_range (s : BitVec 16) : 0 ≤ hi8 s ∧ hi8 s < 256 := by
  have h := s.isLt
  simp only [Nat.reducePow] at h
  rw [hi8_eq]; omega
theorem IsB.crcA {xs : List Int} (h : IsB xs) : IsB (crcA xs) := by
  intro x hx
  unfold X.crcA at hx
  rcases List.mem_append.1 hx with h1 | h1
  · exact h x h1
  · simp at h1
    rcases h1 with rfl | rfl
    · exact lo8_range _
    · exact hi8_range _
theorem crcA_len (xs : List Int) : (crcA xs).length = xs.length + 2 := by simp [crcA]
namespace F9
theorem l0T {a : Option Addr} {n k : Nat} {xs : List Int} {H : Heap} (t1 t2 t3 : Int) (hs : Bytes H a n k xs) (hn : n ≤ 140737488351232) : ∃ H', L0 a n k t1 t2 t3 true H (.bool true, H') := by
  obtain ⟨a1, k1, H1, c1, o1, p1⟩ := F17.ok hs (by omega)
  obtain ⟨H2, c2, p2⟩ := F19.ok o1.sl (by omega)
  obtain ⟨H3, c3, _⟩ := F12.ok H2
  refine ⟨H3, L0_step ?_⟩
  rw [if_pos rfl]
  refine ⟨_, _, _, _, c1, _, _, c2, ?_⟩
  rw [crcA_good, if_pos rfl]
  exact ⟨_, _, c3, rfl⟩
theorem l0F {a : Option Addr} {n k : Nat} {xs : List Int} {H : Heap} (t1 : Int) {t2 t3 : Int} (hs : Bytes H a n k xs) (hb : IsB xs) (hn : n ≤ 2000) (h2 : 0 ≤ t2 ∧ t2 < 256) (h3 : 0 ≤ t3 ∧ t3 < 256) (hne : ¬(t2 = 0 ∧ t3 = 0)) : ∃ H', L0 a n k t1 t2 t3 false H (.bool true, H') := by
  obtain ⟨a1, k1, H1, c1, o1, p1⟩ := F17.ok hs (by omega)
  obtain ⟨b, o, rfl⟩ := o1.sl.at (by omega)
  obtain ⟨H2, c2, p2⟩ := F19.ok o1.sl (by omega)
  have o2 := o1.keep p2
  have c3 := F11.ok o2.sl (by omega)
  have hx := hs.n
  have hl := crcA_len xs
  have u : IntKind.wrap .u64 (IntKind.wrap .i64 (((n + 2 : Nat) : Int) - 1)) = ((n + 1 : Nat) : Int) := by rw [i64 (by omega) (by omega), IntWalk.u64_in _ (by omega)]; omega
  obtain ⟨p, hp, hpn⟩ : ∃ p : Nat, IntKind.wrap .i64 (Int.tmod (IntKind.wrap .u64 t1) ((n + 1 : Nat) : Int)) = (p : Int) ∧ p < n + 1 := by
    have h0 : 0 ≤ IntKind.wrap .u64 t1 := by rw [wrap_nb (k := .u64) rfl]; exact Int.natCast_nonneg _
    have g1 : 0 ≤ Int.tmod (IntKind.wrap .u64 t1) ((n + 1 : Nat) : Int) := Int.tmod_nonneg _ h0
    have g2 : Int.tmod (IntKind.wrap .u64 t1) ((n + 1 : Nat) : Int) < ((n + 1 : Nat) : Int) := Int.tmod_lt_of_pos _ (by omega)
    refine ⟨(Int.tmod (IntKind.wrap .u64 t1) ((n + 1 : Nat) : Int)).toNat, ?_, by omega⟩
    rw [i64 (by omega) (by omega), Int.toNat_of_nonneg g1]
  have hp1 : IntKind.wrap .i64 ((p : Int) + 1) = ((p + 1 : Nat) : Int) := by rw [i64 (by omega) (by omega)]; omega
  have e1 : (crcA xs)[p]? = some (crcA xs)[p] := List.getElem?_eq_getElem (by omega)
  obtain ⟨H3, s3, o3, p3, _⟩ := o2.put (i := p) (by omega) (.int .u8 (ixor .u8 (crcA xs)[p] t2))
  rw [← List.map_set] at o3
  have e2 : ((crcA xs).set p (ixor .u8 (crcA xs)[p] t2))[p + 1]? = some (crcA xs)[p + 1] := by
    rw [List.getElem?_set, if_neg (by omega)]
    exact List.getElem?_eq_getElem (by omega)
  obtain ⟨H4, s4, o4, p4, _⟩ := o3.put (i := p + 1) (by omega) (.int .u8 (ixor .u8 (crcA xs)[p + 1] t3))
  rw [← List.map_set] at o4
  obtain ⟨H5, c5, p5⟩ := F19.ok o4.sl (by omega)
  have hbad := told (crcA_sum xs) (IsB.crcA hb) h2 h3 (by omega : p + 1 < (crcA xs).length) hne rfl
  obtain ⟨H6, c6, _⟩ := F12.ok H5
  refine ⟨H6, L0_step ?_⟩
  rw [if_neg (by decide)]
  refine ⟨_, _, _, _, c1, ?_⟩
  rw [if_pos (by rw [i64 (by omega) (by omega)]; omega)]
  refine ⟨_, _, c2, ?_⟩
  rw [crcA_good, if_pos rfl]
  refine ⟨_, _, c3, ?_⟩
  rw [crcA_sum]
  refine L1_step ?_
  rw [if_neg (by decide), u, hp, hp1]
  refine ⟨by omega, b, o, rfl, by omega, by omega, _, by rw [Int.toNat_natCast]; exact Bytes.get o2.sl e1, by omega, by omega, _, by rw [Int.toNat_natCast]; exact s3, by omega, by omega, _, by rw [Int.toNat_natCast]; exact Bytes.get o3.sl e2, by omega, by omega, _, by rw [Int.toNat_natCast]; exact s4, _, _, c5, ?_⟩
  rw [hbad, if_neg (by decide)]
  exact ⟨_, _, c6, rfl⟩
theorem ok {a : Option Addr} {n k : Nat} {xs : List Int} {H : Heap} (t1 : Int) {t2 t3 : Int} (hs : Bytes H a n k xs) (hb : IsB xs) (y0 : n * 1 ≤ 140737488351232) (h2 : 0 ≤ t2 ∧ t2 < 256) (h3 : 0 ≤ t3 ∧ t3 < 256) : ∃ H', C 9 [.slice a n k, .int .i64 t1, .int .u8 t2, .int .u8 t3] H = some (.bool true, H') := by
  rw [Nat.mul_one] at y0
  by_cases hn : (n : Int) > 2000
  · obtain ⟨H', h⟩ := l0T t1 t2 t3 hs y0
    exact ⟨H', call (by rw [if_pos hn]; exact h)⟩
  · by_cases e2 : t2 = 0
    · by_cases e3 : t3 = 0
      · obtain ⟨H', h⟩ := l0T t1 t2 t3 hs y0
        refine ⟨H', call ?_⟩
        rw [if_neg hn, if_pos e2, show (t3 == 0) = true by simp [e3]]
        exact h
      · obtain ⟨H', h⟩ := l0F t1 hs hb (by omega) h2 h3 (fun h => e3 h.2)
        refine ⟨H', call ?_⟩
        rw [if_neg hn, if_pos e2, show (t3 == 0) = false by simp [e3]]
        exact h
    · obtain ⟨H', h⟩ := l0F t1 hs hb (by omega) h2 h3 (fun h => e2 h.1)
      refine ⟨H', call ?_⟩
      rw [if_neg hn, if_neg e2]
      exact h
end F9
theorem u8_wf {x : Int} (h : (Lit.int .u8 x).wf = true) : 0 ≤ x ∧ x < 256 := IsB.of (xs := [x]) (by simpa using h) x (by simp)
end Go.X
