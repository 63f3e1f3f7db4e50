/- What is open is some of the channels, in order. -/
import Derived.Test.YtnpogbgialgkhaaXzLb2
set_option linter.unusedVariables false
set_option linter.unusedSimpArgs false
namespace Go.X
open Go Go.RowKit Go.Proofs

theorem blk0 (c : Int) : blk 0 c = false := by
  unfold blk
  have e : ishr .u32 0 c = 0 := by unfold ishr; simp
  rw [e]; decide
theorem blkAll {c : Int} (h0 : 0 ≤ c) (h1 : c ≤ 31) : blk 4294967295 c = true := by
  obtain ⟨m, rfl⟩ := Int.eq_ofNat_of_zero_le h0
  have hm : m < 32 := by omega
  have key : ∀ i : _root_.Fin 32, blk 4294967295 ((i.val : Nat) : Int) = true := by decide +kernel
  exact key ⟨m, hm⟩
theorem openL_p {xs : List Int} (h : mayL xs = true) (black : Int) : ∃ p : Int → Bool, openL xs black = xs.filter p := by
  unfold openL
  rw [if_pos h]
  split
  · exact ⟨fun _ => true, (List.filter_eq_self.2 fun _ _ => rfl).symm⟩
  · exact ⟨_, rfl⟩
theorem open0 {xs : List Int} (h : mayL xs = true) : openL xs 0 = xs := by
  unfold openL
  rw [if_pos h]
  have e : xs.filter (fun c => !blk 0 c) = xs := List.filter_eq_self.2 fun c _ => by simp [blk0]
  split
  · rfl
  · exact e
theorem openAll {xs : List Int} (h : mayL xs = true) : openL xs 4294967295 = xs := by
  unfold openL
  rw [if_pos h, if_pos]
  refine List.filter_eq_nil_iff.2 fun c hc => ?_
  have := (mayL_of h).2.2.1 c hc
  simp [blkAll this.1 this.2]
namespace F9
theorem l1 {H : Heap} {a a5 a6 a7 : Option Addr} {n k n5 k5 k6 k7 : Nat} {xs os : List Int} {p : Int → Bool} (hn : n < 4611686018427387904) (hs : Is H a n k xs) (h5 : Is H a5 n5 k5 os) (h6 : Is H a6 n k6 xs) (h7 : Is H a7 n k7 xs) (hos : os = xs.filter p) : ∀ (rest : List Int) (j : Nat), xs.drop j = rest → j + rest.length = n →
    ∃ H', L1 a5 n5 k5 a6 n k6 a7 n k7 ((((xs.take j).filter p).length : Nat) : Int) a n k (n : Int) (j : Int) H (.bool true, H') := by
  have hl := hs.ln
  have hl5 := h5.ln
  intro rest
  induction rest with
  | nil =>
    intro j hd hj
    simp only [List.length_nil] at hj
    have hxt : xs.take j = xs := List.take_of_length_le (by omega)
    obtain ⟨H', c, _⟩ := F21.ok H
    refine ⟨H', L1_step ?_⟩
    rw [if_neg (by omega), hxt, ← hos, if_pos (by omega)]
    exact ⟨_, _, c, rfl⟩
  | cons x rest ih =>
    intro j hd hj
    simp only [List.length_cons] at hj
    have hx := drop_get hd
    obtain ⟨b, o, rfl⟩ := hs.at (by omega)
    obtain ⟨b6, o6, rfl⟩ := h6.at (by omega)
    obtain ⟨b7, o7, rfl⟩ := h7.at (by omega)
    obtain ⟨H', hnext⟩ := ih (j + 1) (drop_next hd) (by omega)
    have e1 : (xs.take (j + 1)).filter p = (xs.take j).filter p ++ (if p x then [x] else []) := by
      rw [List.take_add_one, hx, List.filter_append]
      cases h : p x <;> simp [h]
    have hsplit : os = (xs.take j).filter p ++ (x :: rest).filter p := by
      rw [hos, ← List.filter_append, ← hd, List.take_append_drop]
    have hle : ((xs.take j).filter p).length ≤ n := Nat.le_trans (List.length_filter_le _ _) (by simp; omega)
    refine ⟨H', L1_step ?_⟩
    rw [if_pos (by omega)]
    refine ⟨b, o, rfl, by omega, by omega, x, hs.get hx, b6, o6, rfl, by omega, by omega, x, h6.get hx, ?_⟩
    rw [if_pos rfl]
    refine ⟨b7, o7, rfl, by omega, by omega, x, h7.get hx, ?_⟩
    rw [show (!(x == x)) = false by simp]
    refine L2_step ?_
    rw [if_neg (by decide)]
    by_cases hp : p x = true
    · have e2 : ((xs.take (j + 1)).filter p).length = ((xs.take j).filter p).length + 1 := by rw [e1, if_pos hp]; simp
      have g : os[((xs.take j).filter p).length]? = some x := by
        rw [hsplit, List.getElem?_append_right (Nat.le_refl _), Nat.sub_self, List.filter_cons, if_pos hp]
        rfl
      have hlt := (List.getElem?_eq_some_iff.1 g).1
      obtain ⟨b5, o5, rfl⟩ := h5.at (by omega)
      rw [if_pos (by omega)]
      refine ⟨b5, o5, rfl, by omega, by omega, x, h5.get g, ?_⟩
      rw [beq_self_eq_true]
      refine L3_step ?_
      rw [if_pos rfl, i64 (by omega) (by omega), i64 (by omega) (by omega)]
      rw [e2] at hnext
      exact_mod_cast hnext
    · have e2 : ((xs.take (j + 1)).filter p).length = ((xs.take j).filter p).length := by rw [e1, if_neg hp]; simp
      rw [e2] at hnext
      have fin : L3 a5 n5 k5 b6 o6 n k6 (some ⟨b7, o7, none⟩) n k7 ((((xs.take j).filter p).length : Nat) : Int) b o n k (n : Int) (j : Int) false H (.bool true, H') := by
        refine L3_step ?_
        rw [if_neg (by decide), i64 (n := (j : Int) + 1) (by omega) (by omega)]
        exact_mod_cast hnext
      by_cases hlt : ((((xs.take j).filter p).length : Nat) : Int) < (n5 : Int)
      · have hlt' : ((xs.take j).filter p).length < os.length := by omega
        have g : os[((xs.take j).filter p).length]? = some os[((xs.take j).filter p).length] := List.getElem?_eq_getElem hlt'
        have hq : p os[((xs.take j).filter p).length] = true := by
          have : os[((xs.take j).filter p).length] ∈ xs.filter p := hos ▸ List.getElem_mem hlt'
          exact (List.mem_filter.1 this).2
        generalize os[((xs.take j).filter p).length] = y at g hq
        obtain ⟨b5, o5, rfl⟩ := h5.at (by omega)
        rw [if_pos hlt]
        refine ⟨b5, o5, rfl, by omega, hlt, _, h5.get g, ?_⟩
        have : (y == x) = false := by
          rw [beq_eq_false_iff_ne]
          intro h; rw [h] at hq; exact hp hq
        rw [this]
        exact fin
      · rw [if_neg hlt]
        exact fin
theorem ok {a : Option Addr} {n k : Nat} {xs : List Int} {H : Heap} (hs : Is H a n k xs) (hn : n < 4611686018427387904) (black : Int) : ∃ H', C 9 [.slice a n k, .int .u32 black] H = some (.bool true, H') := by
  obtain ⟨a1, k1, H1, c1, o1, p1⟩ := F25.ok hs hn black
  have s1 := hs.keep p1
  obtain ⟨a2, k2, H2, c2, o2, p2⟩ := F25.ok s1 hn 0
  have s2 := s1.keep p2
  obtain ⟨a3, k3, H3, c3, o3, p3⟩ := F25.ok s2 hn 4294967295
  have s3 := s2.keep p3
  have c4 := F22.ok s3 hn
  have o1' := (o1.keep p2).keep p3
  have o2' := o2.keep p3
  have hl := hs.ln
  by_cases hm : mayL xs = true
  · have m2 := mayL_of hm
    obtain ⟨p, hp⟩ := openL_p hm black
    have hne := List.length_pos_iff.2 (openL_ne hm black)
    rw [open0 hm, hl] at c2 o2'
    rw [openAll hm, hl] at c3 o3
    obtain ⟨H', z⟩ := l1 (a5 := a1) hn s3 o1'.sl o2'.sl o3.sl hp xs 0 (by simp) (by omega)
    refine ⟨H', call ⟨_, _, _, _, c1, _, _, _, _, c2, _, _, _, _, c3, _, _, c4, ?_⟩⟩
    rw [if_pos hm, if_pos rfl, if_pos rfl, decide_eq_false (by omega)]
    refine L0_step ?_
    rw [if_neg (by decide)]
    simpa using z
  · obtain ⟨H', c5, _⟩ := F21.ok H3
    rw [openL_no hm] at c1 c2 c3
    refine ⟨H', call ⟨_, _, _, _, c1, _, _, _, _, c2, _, _, _, _, c3, _, _, c4, ?_⟩⟩
    rw [if_neg hm, if_pos (by decide)]
    exact ⟨_, _, c5, rfl⟩
end F9
end Go.X
