/- What the functions of the hops come to: channels; the laws. -/
import Derived.Test.YtnpogbgialgkhaaXzLb
import Derived.Test.YtnpogbgialgkhaaXzTb0
set_option linter.unusedVariables false
set_option linter.unusedSimpArgs false
namespace Go.X
open Go Go.RowKit Go.Proofs

theorem iand1 (y : Int) : iand .u32 y 1 = 0 ∨ iand .u32 y 1 = 1 := by
  unfold iand
  have e : (BitVec.ofInt IntKind.u32.bits y &&& BitVec.ofInt IntKind.u32.bits 1).toNat = (BitVec.ofInt IntKind.u32.bits y).toNat % 2 := by
    rw [BitVec.toNat_and]; exact Nat.and_one_is_mod _
  rw [e, wrap_nb (k := .u32) rfl]
  rcases Nat.mod_two_eq_zero_or_one (BitVec.ofInt IntKind.u32.bits y).toNat with h | h <;> rw [h]
  · exact .inl rfl
  · exact .inr rfl
theorem blk_not {black c : Int} : (iand .u32 (ishr .u32 black c) 1 = 0) ↔ ¬blk black c = true := by
  unfold blk
  rcases iand1 (ishr .u32 black c) with h | h <;> rw [h] <;> decide
theorem openL_ne {xs : List Int} (h : mayL xs = true) (black : Int) : openL xs black ≠ [] := by
  unfold openL
  rw [if_pos h]
  split
  · have := (mayL_of h).1
    intro e; rw [e] at this; simp at this
  · assumption
theorem openL_no {xs : List Int} (h : ¬mayL xs = true) (black : Int) : openL xs black = [] := by unfold openL; rw [if_neg h]
theorem openL_le {xs : List Int} (black : Int) : (openL xs black).length ≤ xs.length := by
  unfold openL
  split
  · split
    · exact Nat.le_refl _
    · exact List.length_filter_le _ _
  · simp
namespace F26
theorem l0 {a : Option Addr} {n k : Nat} {xs : List Int} {G : Heap} {black : Int} (hs : Is G a n k xs) (hn : n ≤ 16) (hm : mayL xs = true) : ∀ (rest : List Int) (j : Nat) (H : Heap) (a5 : Option Addr) (k5 : Nat), xs.drop j = rest → j + rest.length = n → Keep G.next G H →
    Ow G.next H a5 (kept black (xs.take j)).length k5 (kept black (xs.take j)) →
    ∃ a' k' H', L0 a n k black a5 (kept black (xs.take j)).length k5 a n k (n : Int) (j : Int) H (.slice a' (openL xs black).length k', H') ∧ Ow G.next H' a' (openL xs black).length k' (openL xs black) ∧ Keep G.next H H' := by
  intro rest
  have hl := hs.ln
  induction rest with
  | nil =>
    intro j H a5 k5 hd hj hp ho
    simp only [List.length_nil] at hj
    have hxt : xs.take j = xs := List.take_of_length_le (by omega)
    rw [hxt] at ho ⊢
    by_cases he : kept black xs = []
    · have e : openL xs black = xs := by unfold openL; rw [if_pos hm, if_pos he]
      rw [he] at ho ⊢
      obtain ⟨a', k', H', c, o, q⟩ := OwnI.app 8 ho (hs.keep hp) hp.next (by simp; omega) (by simp; omega)
      simp only [List.length_nil, Nat.zero_add, List.nil_append] at c o ⊢
      rw [e, hl]
      refine ⟨a', k', H', L0_step ?_, o, q⟩
      rw [if_neg (by omega), if_pos (show ((0 : Nat) : Int) = 0 from rfl)]
      exact ⟨_, _, _, _, c, rfl⟩
    · have e : openL xs black = kept black xs := by unfold openL; rw [if_pos hm, if_neg he]
      rw [e]
      refine ⟨a5, k5, H, L0_step ?_, ho, Keep.refl _ _⟩
      rw [if_neg (by omega), if_neg (by have := List.length_pos_iff.2 he; omega)]
  | cons x rest ih =>
    intro j H a5 k5 hd hj hp ho
    simp only [List.length_cons] at hj
    have hx := drop_get hd
    have hb := (mayL_of hm).2.2.1 x (List.mem_of_getElem? hx)
    obtain ⟨b, o, rfl⟩ := hs.at (by omega)
    have e1 : kept black (xs.take (j + 1)) = kept black (xs.take j) ++ kept black [x] := by
      show List.filter _ _ = _
      rw [List.take_add_one, hx, List.filter_append]; rfl
    have hw : IntKind.wrap .u64 x = x := u64 (by omega) (by omega)
    have hlen : (kept black (xs.take j)).length ≤ j := Nat.le_trans (List.length_filter_le _ _) (by simp; omega)
    by_cases hk : blk black x = true
    · have e2 : kept black (xs.take (j + 1)) = kept black (xs.take j) := by rw [e1]; simp [kept, hk]
      obtain ⟨a', k', H', z1, z2, z3⟩ := ih (j + 1) H a5 k5 (drop_next hd) (by omega) hp (by rw [e2]; exact ho)
      refine ⟨a', k', H', L0_step ?_, z2, z3⟩
      rw [if_pos (by omega)]
      refine ⟨b, o, rfl, by omega, by omega, x, Ints.get (hs.keep hp) hx, by rw [hw]; omega, ?_⟩
      rw [hw, if_neg (fun h => blk_not.1 h hk), i64 (by omega) (by omega)]
      rw [e2] at z1
      exact_mod_cast z1
    · have e2 : kept black (xs.take (j + 1)) = kept black (xs.take j) ++ [x] := by rw [e1]; simp [kept, hk]
      have q := Keep.push (H := H) (.row [.int .i64 x] true) (Nat.le_refl H.next)
      have on := (OwnI.new (K := .i64) H [x]).sl
      obtain ⟨a6, k6, H1, c1, o1, q1⟩ := OwnI.app 8 (ho.keep q) on (Nat.le_trans hp.next q.next) (by simp; omega) (by simp; omega)
      have el : (kept black (xs.take (j + 1))).length = (kept black (xs.take j)).length + 1 := by rw [e2]; simp
      obtain ⟨a', k', H', z1, z2, z3⟩ := ih (j + 1) H1 a6 k6 (drop_next hd) (by omega) (hp.trans ((q.weak hp.next).trans q1)) (by rw [el, e2]; exact o1)
      refine ⟨a', k', H', L0_step ?_, z2, (q.weak hp.next).trans (q1.trans z3)⟩
      rw [if_pos (by omega)]
      refine ⟨b, o, rfl, by omega, by omega, x, Ints.get (hs.keep hp) hx, by rw [hw]; omega, ?_⟩
      rw [hw, if_pos (blk_not.2 hk), i64 (by omega) (by omega)]
      refine ⟨_, rfl, _, _, _, _, c1, ?_⟩
      rw [el] at z1
      exact_mod_cast z1
theorem ok {a : Option Addr} {n k : Nat} {xs : List Int} {H : Heap} (hs : Is H a n k xs) (hn : n < 4611686018427387904) (black : Int) : ∃ a' k' H', C 26 [.slice a n k, .int .u32 black] H = some (.slice a' (openL xs black).length k', H') ∧ Ow H.next H' a' (openL xs black).length k' (openL xs black) ∧ Keep H.next H H' := by
  have c1 := F23.ok hs hn
  have hl := hs.ln
  by_cases hm : mayL xs = true
  · have m2 := (mayL_of hm).2.1
    obtain ⟨a', k', H', z1, z2, z3⟩ := l0 (black := black) hs (by omega) hm xs 0 H none 0 (by simp) (by omega) (Keep.refl _ _) OwnI.nil
    refine ⟨a', k', H', call ⟨_, _, c1, ?_⟩, z2, z3⟩
    rw [if_pos hm]
    exact z1
  · rw [openL_no hm]
    refine ⟨none, 0, H, call ⟨_, _, c1, ?_⟩, OwnI.nil, Keep.refl _ _⟩
    rw [if_neg hm]
    rfl
end F26
theorem chan_in {xs : List Int} {black asn off : Int} (hne : openL xs black ≠ []) (h1 : 0 ≤ asn) (h2 : asn < 1099511627776) (h3 : 0 ≤ off) (h4 : off ≤ 255) :
    ∃ i : Nat, Int.tmod (IntKind.wrap .i64 (asn + off)) (((openL xs black).length : Nat) : Int) = (i : Int) ∧ i < (openL xs black).length ∧ (openL xs black)[i]? = some (chanL xs black asn off) := by
  have hp := List.length_pos_iff.2 hne
  rw [i64 (by omega) (by omega), Int.tmod_eq_emod_of_nonneg (by omega)]
  have g0 := Int.emod_nonneg (asn + off) (by omega : (((openL xs black).length : Nat) : Int) ≠ 0)
  have g1 := Int.emod_lt_of_pos (asn + off) (by omega : 0 < (((openL xs black).length : Nat) : Int))
  refine ⟨((asn + off) % (((openL xs black).length : Nat) : Int)).toNat, by omega, by omega, ?_⟩
  unfold chanL
  rw [if_neg (by simp [hne]; omega), List.getD, List.getElem?_eq_getElem (by omega)]
  rfl
theorem chan_out {xs : List Int} {black asn off : Int} (h : openL xs black = [] ∨ asn < 0 ∨ 1099511627776 ≤ asn ∨ off < 0 ∨ 255 < off) : chanL xs black asn off = -1 := by unfold chanL; rw [if_pos h]
namespace F27
theorem ok {a : Option Addr} {n k : Nat} {xs : List Int} {H : Heap} (hs : Is H a n k xs) (hn : n < 4611686018427387904) (black asn off : Int) : ∃ H', C 27 [.slice a n k, .int .u32 black, .int .i64 asn, .int .i64 off] H = some (.int .i64 (chanL xs black asn off), H') ∧ Keep H.next H H' := by
  obtain ⟨a1, k1, H1, c1, o1, p1⟩ := F25.ok hs hn black
  have bad : ∀ v : Int, v = -1 → L0 asn off a1 (openL xs black).length k1 true H1 (.int .i64 v, H1) := fun v hv => L0_step (by rw [if_pos rfl, hv])
  refine ⟨H1, call ⟨_, _, _, _, c1, ?_⟩, p1⟩
  by_cases h1 : openL xs black = []
  · rw [if_pos (by rw [h1]; rfl)]
    exact bad _ (chan_out (.inl h1))
  · rw [if_neg (by have := List.length_pos_iff.2 h1; omega)]
    by_cases h2 : asn < 0
    · rw [if_pos h2]; exact bad _ (chan_out (.inr (.inl h2)))
    · rw [if_neg h2]
      by_cases h3 : asn ≥ 1099511627776
      · rw [if_pos h3]; exact bad _ (chan_out (.inr (.inr (.inl h3))))
      · rw [if_neg h3]
        by_cases h4 : off < 0
        · rw [if_pos h4]; exact bad _ (chan_out (.inr (.inr (.inr (.inl h4)))))
        · rw [if_neg h4]
          by_cases h5 : off > 255
          · rw [decide_eq_true h5]; exact bad _ (chan_out (.inr (.inr (.inr (.inr h5)))))
          · rw [decide_eq_false h5]
            obtain ⟨i, e1, e2, e3⟩ := chan_in (xs := xs) (black := black) (asn := asn) (off := off) h1 (by omega) (by omega) (by omega) (by omega)
            obtain ⟨b, o, rfl⟩ := o1.sl.at (by omega)
            refine L0_step ?_
            rw [if_neg (by decide), e1]
            exact ⟨by omega, b, o, rfl, by omega, by omega, _, Ints.get o1.sl e3, rfl⟩
end F27
namespace F28
theorem ok {a : Option Addr} {n k : Nat} {xs : List Int} {H : Heap} (hs : Is H a n k xs) (hn : n < 4611686018427387904) (black asn off : Int) : ∃ H', C 28 [.slice a n k, .int .u32 black, .int .i64 asn, .int .i64 off] H = some (.int .i64 (chanL xs black asn off), H') ∧ Keep H.next H H' := by
  have c1 := F23.ok hs hn
  obtain ⟨a1, k1, H1, c2, o1, p1⟩ := F26.ok hs hn black
  have bad : ∀ v : Int, v = -1 → L0 a n k black asn off true H (.int .i64 v, H) := fun v hv => L0_step (by rw [if_pos rfl, hv])
  by_cases hm : mayL xs = true
  · have hne := openL_ne hm black
    have c3 : C 39 [.int .i64 asn] H = some (.bool (decide (0 ≤ asn) && decide (asn < 1099511627776)), H) := by
      refine F39.call ?_
      by_cases h : asn ≥ 0
      · rw [if_pos h, decide_eq_true (show 0 ≤ asn from h)]; rfl
      · rw [if_neg h, decide_eq_false (show ¬0 ≤ asn from h)]; rfl
    by_cases hr : (decide (0 ≤ asn) && decide (asn < 1099511627776)) = true
    · have hr2 := hr
      simp only [Bool.and_eq_true, decide_eq_true_eq] at hr2
      by_cases h4 : off < 0
      · refine ⟨H, call ⟨_, _, c1, ?_⟩, Keep.refl _ _⟩
        rw [if_pos hm]
        refine ⟨_, _, c3, ?_⟩
        rw [if_pos hr, if_pos h4]
        exact bad _ (chan_out (.inr (.inr (.inr (.inl h4)))))
      · by_cases h5 : off > 255
        · refine ⟨H, call ⟨_, _, c1, ?_⟩, Keep.refl _ _⟩
          rw [if_pos hm]
          refine ⟨_, _, c3, ?_⟩
          rw [if_pos hr, if_neg h4, decide_eq_true h5]
          exact bad _ (chan_out (.inr (.inr (.inr (.inr h5)))))
        · obtain ⟨i, e1, e2, e3⟩ := chan_in (xs := xs) (black := black) (asn := asn) (off := off) hne (by omega) (by omega) (by omega) (by omega)
          obtain ⟨b, o, rfl⟩ := o1.sl.at (by omega)
          refine ⟨H1, call ⟨_, _, c1, ?_⟩, p1⟩
          rw [if_pos hm]
          refine ⟨_, _, c3, ?_⟩
          rw [if_pos hr, if_neg h4, decide_eq_false h5]
          refine L0_step ?_
          rw [if_neg (by decide)]
          refine ⟨_, _, _, _, c2, ?_⟩
          rw [e1]
          exact ⟨by omega, b, o, rfl, by omega, by omega, _, Ints.get o1.sl e3, rfl⟩
    · refine ⟨H, call ⟨_, _, c1, ?_⟩, Keep.refl _ _⟩
      rw [if_pos hm]
      refine ⟨_, _, c3, ?_⟩
      rw [if_neg hr]
      refine bad _ (chan_out ?_)
      simp only [Bool.and_eq_true, decide_eq_true_eq] at hr
      omega
  · refine ⟨H, call ⟨_, _, c1, ?_⟩, Keep.refl _ _⟩
    rw [if_neg hm]
    exact bad _ (chan_out (.inl (openL_no hm black)))
end F28
namespace F21
theorem ok (H : Heap) : ∃ H', C 21 [] H = some (.bool true, H') ∧ Keep H.next H H' := by
  have p1 : Keep H.next H (H.push (.row [.int .i64 11, .int .i64 20, .int .i64 26] true)) := Keep.push _ (Nat.le_refl _)
  have o1 : Is (H.push (.row [.int .i64 11, .int .i64 20, .int .i64 26] true)) (some ⟨H.next, 0, none⟩) 3 (UNK 1) [11, 20, 26] := (OwnI.new (K := .i64) H [11, 20, 26]).sl
  obtain ⟨H2, c2, p2⟩ := F27.ok o1 (by decide) 0 4 1
  have e : chanL [11, 20, 26] 0 4 1 = 26 := by decide +kernel
  have p3 : Keep H2.next H2 (H2.push (.row [.int .i64 3] true)) := Keep.push _ (Nat.le_refl _)
  have o3 : Is (H2.push (.row [.int .i64 3] true)) (some ⟨H2.next, 0, none⟩) 1 (UNK 1) [3] := (OwnI.new (K := .i64) H2 [3]).sl
  have c4 := F22.ok o3 (by decide)
  rw [e] at c2
  have q2 := p1.trans (p2.weak p1.next)
  refine ⟨_, call ⟨_, rfl, _, _, c2, ?_⟩, q2.trans (p3.weak q2.next)⟩
  rw [if_pos rfl]
  exact ⟨_, rfl, _, _, c4, rfl⟩
end F21
namespace F6
theorem ok {a : Option Addr} {n k : Nat} {xs : List Int} {H : Heap} (hs : Is H a n k xs) (black asn off : Int) : ∃ H', C 6 [.slice a n k, .int .u32 black, .int .i64 asn, .int .i64 off] H = some (.bool true, H') := by
  by_cases hn : (n : Int) > 100
  · obtain ⟨H', c, _⟩ := F21.ok H
    exact ⟨H', call (by rw [if_pos hn]; exact ⟨_, _, c, rfl⟩)⟩
  · have c1 := F22.ok hs (by omega)
    have c2 := F23.ok hs (by omega)
    obtain ⟨a3, k3, H3, c3, o3, p3⟩ := F25.ok hs (by omega) black
    have s3 := hs.keep p3
    obtain ⟨a4, k4, H4, c4, o4, p4⟩ := F26.ok s3 (by omega) black
    have s4 := s3.keep p4
    have hle := openL_le (xs := xs) black
    have hl := hs.ln
    have c5 := F24.ok (o3.keep p4).sl o4.sl (by omega)
    obtain ⟨H6, c6, p6⟩ := F27.ok s4 (by omega) black asn off
    obtain ⟨H7, c7, p7⟩ := F28.ok (s4.keep p6) (by omega) black asn off
    obtain ⟨H8, c8, _⟩ := F21.ok H7
    refine ⟨H8, call ?_⟩
    rw [if_neg hn]
    refine ⟨_, _, c1, _, _, c2, ?_⟩
    rw [if_pos (by simp)]
    refine ⟨_, _, _, _, c3, _, _, _, _, c4, _, _, c5, ?_⟩
    rw [if_pos (by simp)]
    refine ⟨_, _, c6, _, _, c7, ?_⟩
    rw [if_pos rfl]
    exact ⟨_, _, c8, rfl⟩
end F6

/-- A remainder, as the laws draw it. -/
theorem modN (x : Int) (M : Int) (h0 : 0 < M) (h1 : M ≤ 9223372036854775807) : ∃ m : Nat, IntKind.wrap .i64 (Int.tmod (IntKind.wrap .u64 x) M) = (m : Int) ∧ (m : Int) < M := by
  have g0 : 0 ≤ IntKind.wrap .u64 x := by rw [wrap_nb (k := .u64) rfl]; exact Int.natCast_nonneg _
  have g1 : 0 ≤ Int.tmod (IntKind.wrap .u64 x) M := Int.tmod_nonneg _ g0
  have g2 : Int.tmod (IntKind.wrap .u64 x) M < M := Int.tmod_lt_of_pos _ h0
  refine ⟨(Int.tmod (IntKind.wrap .u64 x) M).toNat, ?_, by omega⟩
  rw [i64 (by omega) (by omega), Int.toNat_of_nonneg g1]
theorem chan_shift {xs : List Int} {black : Int} {s a b : Int} (h0 : 0 ≤ s) (h1 : s + a < 1099511627776) (ha : 0 ≤ a) (hb : 0 ≤ b) (hab : a + b ≤ 255) : chanL xs black s (a + b) = chanL xs black (s + a) b := by
  unfold chanL
  by_cases he : openL xs black = []
  · rw [if_pos (.inl he), if_pos (.inl he)]
  · rw [if_neg (by simp [he]; omega), if_neg (by simp [he]; omega), show s + (a + b) = s + a + b by omega]
namespace F8
theorem ok {a : Option Addr} {n k : Nat} {xs : List Int} {H : Heap} (hs : Is H a n k xs) (hn : n < 4611686018427387904) (black a2 a3 a4 : Int) : ∃ H', C 8 [.slice a n k, .int .u32 black, .int .i64 a2, .int .i64 a3, .int .i64 a4] H = some (.bool true, H') := by
  have c1 := F22.ok hs hn
  by_cases hm : mayL xs = true
  · obtain ⟨p, e1, l1⟩ := modN a2 549755813888 (by decide) (by decide)
    obtain ⟨q, e2, l2⟩ := modN a3 100 (by decide) (by decide)
    obtain ⟨t, e3, l3⟩ := modN a4 100 (by decide) (by decide)
    obtain ⟨H2, c2, p2⟩ := F27.ok hs hn black (p : Int) ((q : Int) + t)
    obtain ⟨H3, c3, p3⟩ := F27.ok (hs.keep p2) hn black ((p : Int) + q) (t : Int)
    obtain ⟨H4, c4, _⟩ := F21.ok H3
    refine ⟨H4, call ⟨_, _, c1, ?_⟩⟩
    rw [if_pos hm, e1, e2, e3, i64 (n := (q : Int) + t) (by omega) (by omega), i64 (n := (p : Int) + q) (by omega) (by omega)]
    refine ⟨_, _, c2, _, _, c3, ?_⟩
    rw [if_pos (chan_shift (by omega) (by omega) (by omega) (by omega) (by omega))]
    exact ⟨_, _, c4, rfl⟩
  · obtain ⟨H4, c4, _⟩ := F21.ok H
    refine ⟨H4, call ⟨_, _, c1, ?_⟩⟩
    rw [if_neg hm]
    exact ⟨_, _, c4, rfl⟩
end F8
end Go.X
