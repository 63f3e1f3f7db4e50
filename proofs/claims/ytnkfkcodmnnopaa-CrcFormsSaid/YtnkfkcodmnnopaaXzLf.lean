/- The sum of bytes beside the document's own. -/
import Derived.Test.YtnkfkcodmnnopaaXzTaf
import Derived.Test.YtnkfkcodmnnopaaXzLs
set_option linter.unusedVariables false
set_option linter.unusedSimpArgs false
namespace Go.X
open Go Go.RowKit Go.Proofs
theorem bit0 (s : BitVec 16) : iand .u16 (nb s) 1 = if s.getLsbD 0 then 1 else 0 := by
  have e1 : iand .u16 (nb s) 1 = nb (s &&& 1#16) := iand_nb (k := .u16) rfl s 1#16
  have h : s.getLsbD 0 = decide (s.toNat % 2 = 1) := by rw [BitVec.getLsbD, Nat.testBit_zero]
  have e : s.toNat &&& 1 = s.toNat % 2 := Nat.and_one_is_mod _
  rw [e1, h, nb, BitVec.toNat_and, show (1#16).toNat = 1 from rfl, e]
  rcases Nat.mod_two_eq_zero_or_one s.toNat with h | h <;> simp [h]
theorem round2 (s : BitVec 16) : (if iand .u16 (nb s) 1 = 1 then ixor .u16 (ishr .u16 (nb s) 1) 33800 else ishr .u16 (nb s) 1) = nb (crcR s) := by
  have e4 : ishr .u16 (nb s) 1 = nb (s >>> 1) := ishr_nb (k := .u16) s 1 (by decide)
  rw [bit0, e4, crcR_if]
  cases s.getLsbD 0
  · simp
  · simp only [if_true]
    exact ixor_nb (k := .u16) rfl _ 33800#16
namespace F18
theorem l1 {a : Nat} {o n k : Nat} {t7 t8 : Int} {H : Heap} {r : Value × Heap} : ∀ (m : Nat) (s : BitVec 16) (i : Int), i + m = 8 → 0 ≤ i →
    L0 (nb (crcN m s)) (some ⟨a, o, none⟩) n k t7 (IntKind.wrap .i64 (t8 + 1)) H r → L1 (nb s) a o n k t7 t8 i H r := by
  intro m
  induction m with
  | zero =>
    intro s i hi h0 h
    refine L1_step ?_
    rw [if_neg (by omega)]
    exact h
  | succ m ih =>
    intro s i hi h0 h
    have z := ih (crcR s) (i + 1) (by omega) (by omega) h
    have e := round2 s
    refine L1_step ?_
    rw [if_pos (by omega), i64 (by omega) (by omega)]
    by_cases hb : iand .u16 (nb s) 1 = 1
    · rw [if_pos hb] at e ⊢
      rw [e]; exact z
    · rw [if_neg hb] at e ⊢
      rw [e]; exact z
theorem l0 {H : Heap} {a : Option Addr} {n k : Nat} {xs : List Int} (hs : Bytes H a n k xs) (hn : n < 4611686018427387904) : ∀ (rest : List Int) (j : Nat) (s : BitVec 16), xs.drop j = rest → j + rest.length = n →
    L0 (nb s) a n k (n : Int) (j : Int) H (.int .u16 (nb (crcL s rest)), H) := by
  intro rest
  induction rest with
  | nil =>
    intro j s hd hj
    simp only [List.length_nil] at hj
    refine L0_step ?_
    rw [if_neg (by omega)]
    rfl
  | cons x rest ih =>
    intro j s hd hj
    simp only [List.length_cons] at hj
    obtain ⟨b, o, rfl⟩ := hs.at (by omega)
    refine L0_step ?_
    rw [if_pos (by omega)]
    have hx : xs[j]? = some x := by have := congrArg (·[0]?) hd; simpa using this
    refine ⟨b, o, rfl, by omega, by omega, x, by rw [Int.toNat_natCast]; exact hs.get hx, ?_⟩
    rw [byteI]
    refine l1 8 _ 0 rfl (by decide) ?_
    rw [i64 (by omega) (by omega)]
    have := ih (j + 1) (crcB s x) (by rw [← List.drop_drop, hd]; rfl) (by omega)
    rw [crcL_cons]
    exact_mod_cast this
theorem ok {H : Heap} {a : Option Addr} {n k : Nat} {xs : List Int} (hs : Bytes H a n k xs) (hn : n < 4611686018427387904) : C 18 [.slice a n k] H = some (.int .u16 (nb (crcL 0#16 xs)), H) := by
  refine call ?_
  exact l0 hs hn xs 0 0#16 (by simp) (by have := hs.n; omega)
end F18
namespace F21
theorem ok {H : Heap} {a : Option Addr} {n k : Nat} {xs : List Int} (hs : Bytes H a n k xs) (hn : n + 2 ≤ 140737488355328) : ∃ a' k' H', C 21 [.slice a n k] H = some (.slice a' (n + 2) k', H') ∧ Own H.next H' 1 a' (n + 2) k' ((crcA xs).map (Value.int .u8)) ∧ Keep H.next H H' := by
  have z : Own H.next H 1 none 0 0 [] := ⟨rfl, .inl ⟨rfl, rfl, rfl⟩⟩
  obtain ⟨a1, k1, H1, c1, o1, p1⟩ := z.append (by_ := 1) hs (by decide) (Nat.le_refl _) (by omega) (by omega)
  rw [Nat.zero_add] at c1 o1
  rw [List.nil_append] at o1
  have hp := Keep.push (H := H1) (.row [.int .u8 (lo8 (crcL 0#16 xs)), .int .u8 (hi8 (crcL 0#16 xs))] true) (Nat.le_refl H1.next)
  have e := (Own.new (H := H1) (z := 1) (n := 2) (vs := [.int .u8 (lo8 (crcL 0#16 xs)), .int .u8 (hi8 (crcL 0#16 xs))]) rfl).sl
  obtain ⟨a', k', H', h1, h2, h3⟩ := (o1.keep hp).append (by_ := 1) e (by decide) (Nat.le_trans p1.next hp.next) (by omega) (by omega)
  refine ⟨a', k', H', call ⟨_, _, F18.ok hs (by omega), _, _, _, _, c1, _, rfl, _, _, _, _, h1, rfl⟩, ?_, p1.trans ((hp.weak p1.next).trans h3)⟩
  simpa [crcA] using h2
end F21
theorem str_eq {xs ys : List Int} (hx : IsB xs) (hy : IsB ys) : ((strOfNums xs).toList == (strOfNums ys).toList) = decide (xs = ys) := by
  by_cases h : xs = ys
  · rw [h]; simp
  · rw [decide_eq_false h]
    exact beq_eq_false_iff_ne.2 fun e => h (str_inj hx hy e)
namespace F20
theorem ok {H : Heap} {a : Option Addr} {n k : Nat} {xs : List Int} (hs : Bytes H a n k xs) (hb : IsB xs) (hn : n ≤ 140737488355328) : ∃ H', C 20 [.slice a n k] H = some (.bool (goodB xs), H') ∧ Keep H.next H H' := by
  have hx := hs.n
  by_cases h2 : 2 ≤ n
  · obtain ⟨a1, k1, hp, hs1⟩ := hs.part none (some ((n - 2 : Nat) : Int)) 0 (n - 2) (.inl ⟨rfl, rfl⟩) (.inr rfl) (by omega) (by omega)
    have hs1 : Bytes H a1 (n - 2) k1 (xs.take (n - 2)) := by simpa [← List.map_take] using hs1
    obtain ⟨a', k', H', c, o, p⟩ := F21.ok hs1 (by omega)
    refine ⟨H', call ?_, p⟩
    rw [i64 (by omega) (by omega), if_pos (by omega)]
    refine ⟨_, _, _, ?_, _, _, _, _, c, _, Sl.str o.sl, _, Sl.str hs, Sl.str (hs.keep p), ?_⟩
    · rw [show ((n : Int) - 2) = ((n - 2 : Nat) : Int) by omega]; simpa using hp
    · rw [str_eq (IsB.crcA fun x hx => hb x (List.mem_of_mem_take hx)) hb]
      unfold goodB
      rw [hx]
      simp [h2]
  · refine ⟨H, call ?_, Keep.refl _ _⟩
    rw [i64 (by omega) (by omega), if_neg (by omega)]
    unfold goodB
    rw [hx]
    simp [h2]
end F20
namespace F8
theorem ok {H : Heap} {a : Option Addr} {n k : Nat} {xs : List Int} (hs : Bytes H a n k xs) (hb : IsB xs) : ∃ H', C 8 [.slice a n k] H = some (.bool true, H') := by
  by_cases hn : (n : Int) > 2000
  · obtain ⟨H', c, _⟩ := F12.ok H
    exact ⟨H', call (by rw [if_pos hn]; exact ⟨_, _, c, rfl⟩)⟩
  · have c1 := F11.ok hs (by omega)
    have c2 := F18.ok hs (by omega)
    obtain ⟨H4, c4, p4⟩ := F19.ok hs (by omega)
    have s4 := hs.keep p4
    obtain ⟨H5, c5, p5⟩ := F20.ok s4 hb (by omega)
    have s5 := s4.keep p5
    obtain ⟨a6, k6, H6, c6, o6, p6⟩ := F17.ok s5 (by omega)
    obtain ⟨a7, k7, H7, c7, o7, p7⟩ := F21.ok (s5.keep p6) (by omega)
    obtain ⟨H8, c8, _⟩ := F12.ok H7
    refine ⟨H8, call ?_⟩
    rw [if_neg hn]
    refine ⟨_, _, c1, _, _, c2, ?_⟩
    rw [if_pos rfl]
    refine ⟨_, _, c4, _, _, c5, ?_⟩
    rw [if_pos (by simp)]
    refine ⟨_, _, _, _, c6, _, Sl.str o6.sl, _, _, _, _, c7, _, Sl.str o7.sl, ?_⟩
    rw [if_pos rfl]
    exact ⟨_, _, c8, Sl.str (o6.keep p7).sl, rfl⟩
end F8
end Go.X
