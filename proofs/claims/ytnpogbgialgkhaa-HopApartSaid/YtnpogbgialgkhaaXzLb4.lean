/- In one slot two offsets are on one channel just if they are the same. -/
import Derived.Test.YtnpogbgialgkhaaXzLb3
set_option linter.unusedVariables false
set_option linter.unusedSimpArgs false
namespace Go.X
open Go Go.RowKit Go.Proofs

theorem stc_all {H : Heap} {b : Nat} {cs vs : List Value} (h : H.get b = .row cs true) (hl : vs.length = cs.length) : stc H b 0 vs = some (H.set b (.row vs true)) := by
  unfold stc
  rw [h]
  simp only [Nat.zero_add]
  rw [if_pos (by omega), setMany_eq vs cs 0 (by omega)]
  simp [hl]
theorem openL_nodup {xs : List Int} (h : mayL xs = true) (black : Int) : (openL xs black).Nodup := by
  obtain ⟨p, hp⟩ := openL_p h black
  rw [hp]
  exact (mayL_of h).2.2.2.filter p
theorem openL_mem {xs : List Int} (h : mayL xs = true) {black c : Int} (hc : c ∈ openL xs black) : 0 ≤ c ∧ c ≤ 31 := by
  obtain ⟨p, hp⟩ := openL_p h black
  rw [hp] at hc
  exact (mayL_of h).2.2.1 c (List.mem_filter.1 hc).1
theorem openL_few {xs : List Int} (h : mayL xs = true) {black c : Int} (hc : c ∈ openL xs black) (hl : (openL xs black).length < xs.length) : blk black c = false := by
  unfold openL at hc hl
  rw [if_pos h] at hc hl
  split at hc
  · rename_i he
    rw [if_pos he] at hl
    exact absurd hl (Nat.lt_irrefl _)
  · have := (List.mem_filter.1 hc).2
    simpa using this
theorem chan_nat {xs : List Int} {black : Int} (hne : openL xs black ≠ []) {s A : Nat} (hs : s < 1099511627776) (hA : A ≤ 255) : (openL xs black)[(s + A) % (openL xs black).length]? = some (chanL xs black (s : Int) (A : Int)) := by
  obtain ⟨i, e1, e2, e3⟩ := chan_in (xs := xs) (black := black) (asn := (s : Int)) (off := (A : Int)) hne (by omega) (by omega) (by omega) (by omega)
  rw [i64 (by omega) (by omega), Int.tmod_eq_emod_of_nonneg (by omega), ← Int.natCast_add, ← Int.natCast_emod] at e1
  rw [show (s + A) % (openL xs black).length = i by omega]
  exact e3
theorem mod_ne {x d N : Nat} (h0 : 0 < d) (h1 : d < N) : (x + d) % N ≠ x % N := by
  intro h
  have := Nat.sub_mod_eq_zero_of_mod_eq h
  rw [Nat.add_sub_cancel_left, Nat.mod_eq_of_lt h1] at this
  omega
theorem mod_cancel {s A B N : Nat} (h : (s + A) % N = (s + B) % N) : A % N = B % N := by
  have h1 : ((s : Int) + A) % (N : Int) = ((s : Int) + B) % (N : Int) := by exact_mod_cast h
  have h2 := Int.emod_eq_emod_iff_emod_sub_eq_zero.1 h1
  rw [show (s : Int) + A - ((s : Int) + B) = (A : Int) - B by omega] at h2
  have h3 := Int.emod_eq_emod_iff_emod_sub_eq_zero.2 h2
  exact_mod_cast h3
theorem idx_inj {l : List Int} (h : l.Nodup) {i j : Nat} {x : Int} (hi : l[i]? = some x) (hj : l[j]? = some x) : i = j :=
  (List.getElem?_inj (List.getElem?_eq_some_iff.1 hi).1 h).1 (hi.trans hj.symm)
namespace F7
theorem l1 {a : Option Addr} {n k b : Nat} {xs : List Int} {black : Int} {s A : Nat} {G : Heap} (hs : Is G a n k xs) (hn : n < 4611686018427387904) (hm : mayL xs = true) (hs1 : s < 549755813888) (hA : A ≤ 255) (hb : G.next ≤ b) :
    ∀ (m i : Nat) (H : Heap) (ss : List Int), i + m = (openL xs black).length → Keep G.next G H → Ow G.next H (some ⟨b, 0, none⟩) 32 (UNK 1) ss →
    (∀ c : Nat, c < 32 → (∀ j, j < i → (openL xs black)[(s + j + A) % (openL xs black).length]? ≠ some (c : Int)) → ss[c]? = some 0) →
    ∃ H', L1 a n k black (s : Int) (A : Int) (((openL xs black).length : Nat) : Int) b 0 (((openL xs black).length : Nat) : Int) (i : Int) H (.bool true, H') := by
  have hne := openL_ne hm black
  have hN := List.length_pos_iff.2 hne
  have hle := openL_le (xs := xs) black
  have hl := hs.ln
  have m2 := (mayL_of hm).2.1
  have hnd := openL_nodup hm black
  intro m
  induction m with
  | zero =>
    intro i H ss hi hp ho hz
    have ei : i = (openL xs black).length := by omega
    have s1 := hs.keep hp
    obtain ⟨H1, c1, p1⟩ := F27.ok s1 hn black ((s : Int) + (((openL xs black).length : Nat) : Int)) (A : Int)
    obtain ⟨H2, c2, p2⟩ := F27.ok (s1.keep p1) hn black (s : Int) (A : Int)
    obtain ⟨H3, c3, _⟩ := F21.ok H2
    refine ⟨H3, L1_step ?_⟩
    rw [if_neg (by omega), i64 (by omega) (by omega)]
    refine ⟨_, _, c1, _, _, c2, ?_⟩
    have e1 := chan_nat (black := black) hne (s := s + (openL xs black).length) (A := A) (by omega) hA
    have e2 := chan_nat (black := black) hne (s := s) (A := A) (by omega) hA
    rw [show s + (openL xs black).length + A = s + A + (openL xs black).length by omega, Nat.add_mod_right, e2] at e1
    rw [if_pos (by rw [← Int.natCast_add]; exact (Option.some.inj e1).symm)]
    exact ⟨_, _, c3, rfl⟩
  | succ m ih =>
    intro i H ss hi hp ho hz
    have s1 := hs.keep hp
    obtain ⟨H1, c1, p1⟩ := F27.ok s1 hn black ((s : Int) + (i : Int)) (A : Int)
    have o1 : Ow G.next H1 (some ⟨b, 0, none⟩) 32 (UNK 1) ss := ho.keep p1
    have g := chan_nat (black := black) hne (s := s + i) (A := A) (by omega) hA
    have gm := openL_mem hm (List.mem_of_getElem? g)
    have gf := openL_few hm (List.mem_of_getElem? g)
    rw [← Int.natCast_add] at c1
    generalize chanL xs black ((s + i : Nat) : Int) (A : Int) = c at c1 g gm gf
    obtain ⟨q, rfl⟩ := Int.eq_ofNat_of_zero_le gm.1
    have hq : q < 32 := by omega
    have hss : ss[q]? = some 0 := hz q hq fun j hj e => by
      have := idx_inj hnd e g
      have hx := mod_ne (x := s + j + A) (d := i - j) (N := (openL xs black).length) (by omega) (by omega)
      rw [show s + j + A + (i - j) = s + i + A by omega] at hx
      exact hx this.symm
    obtain ⟨H2, c2, o2, p2, _⟩ := OwnI.put o1 (i := q) (by omega) 1
    have hsl := OwnI.ln o1
    obtain ⟨H', z⟩ := ih (i + 1) H2 (ss.set q 1) (by omega) (hp.trans ((p1.weak hp.next).trans p2)) o2 (by
      intro c hc hj
      have hne2 : q ≠ c := fun e => hj i (by omega) (by rw [← e]; exact g)
      rw [List.getElem?_set, if_neg hne2]
      exact hz c hc fun j hji => hj j (by omega))
    have fin : L2 a n k black (s : Int) (A : Int) (((openL xs black).length : Nat) : Int) b 0 (q : Int) (((openL xs black).length : Nat) : Int) (i : Int) false H1 (.bool true, H') := by
      refine L2_step ?_
      rw [if_neg (by decide)]
      refine ⟨by omega, by omega, 0, Ints.get o1.sl hss, by omega, by omega, H2, ?_, ?_⟩
      · rw [i64 (by omega) (by omega)]; exact c2
      · rw [i64 (by omega) (by omega)]
        exact_mod_cast z
    refine ⟨H', L1_step ?_⟩
    rw [if_pos (by omega), i64 (by omega) (by omega), ← Int.natCast_add]
    refine ⟨_, _, c1, ?_⟩
    rw [if_neg (by omega), if_neg (by omega)]
    refine ⟨by omega, by omega, 0, Ints.get o1.sl hss, ?_⟩
    rw [if_neg (by decide)]
    by_cases hlt : (((openL xs black).length : Nat) : Int) < (n : Int)
    · rw [if_pos hlt]
      have hw : IntKind.wrap .u64 ((q : Nat) : Int) = (q : Int) := u64 (by omega) (by omega)
      rw [hw]
      refine ⟨by omega, ?_⟩
      have hb2 := gf (by omega)
      unfold blk at hb2
      rw [hb2]
      exact fin
    · rw [if_neg hlt]
      exact fin
theorem ok {a : Option Addr} {n k : Nat} {xs : List Int} {H : Heap} (hs : Is H a n k xs) (hn : n < 4611686018427387904) (black a2 a3 a4 : Int) : ∃ H', C 7 [.slice a n k, .int .u32 black, .int .i64 a2, .int .i64 a3, .int .i64 a4] H = some (.bool true, H') := by
  have c1 := F22.ok hs hn
  obtain ⟨a1, k1, H1, c2, o1, p1⟩ := F25.ok hs hn black
  have s1 := hs.keep p1
  by_cases hm : mayL xs = true
  · have hne := openL_ne hm black
    have hN := List.length_pos_iff.2 hne
    have hle := openL_le (xs := xs) black
    have hl := hs.ln
    have m2 := (mayL_of hm).2.1
    obtain ⟨s, e1, l1'⟩ := modN a2 549755813888 (by decide) (by decide)
    obtain ⟨A, e2, l2⟩ := modN a3 256 (by decide) (by decide)
    obtain ⟨B, e3, l3⟩ := modN a4 256 (by decide) (by decide)
    obtain ⟨H2, c3, p2⟩ := F27.ok s1 hn black (s : Int) (A : Int)
    have s2 := s1.keep p2
    obtain ⟨H3, c4, p3⟩ := F27.ok s2 hn black (s : Int) (B : Int)
    have s3 := s2.keep p3
    have n1 := OwnI.new (K := .i64) H3 (List.replicate 32 0)
    have q1 : Keep H3.next H3 (H3.push (.row ((List.replicate 32 (0 : Int)).map (Value.int .i64)) true)) := Keep.push _ (Nat.le_refl _)
    have st := stc_all (H := H3.push (.row ((List.replicate 32 (0 : Int)).map (Value.int .i64)) true)) (b := H3.next) (cs := (List.replicate 32 (0 : Int)).map (Value.int .i64)) (vs := (List.replicate 32 (0 : Int)).map (Value.int .i64)) (by simp) rfl
    have q2 : Keep H3.next H3 ((H3.push (.row ((List.replicate 32 (0 : Int)).map (Value.int .i64)) true)).set H3.next (.row ((List.replicate 32 (0 : Int)).map (Value.int .i64)) true)) := q1.trans (Keep.set _ (Nat.le_refl _))
    have o4 : Ow H3.next ((H3.push (.row ((List.replicate 32 (0 : Int)).map (Value.int .i64)) true)).set H3.next (.row ((List.replicate 32 (0 : Int)).map (Value.int .i64)) true)) (some ⟨H3.next, 0, none⟩) 32 (UNK 1) (List.replicate 32 0) :=
      ⟨by simp, .inr ⟨H3.next, 0, (List.replicate 32 (0 : Int)).map (Value.int .i64), rfl, rfl, Nat.le_refl _, by simp, by simp, by simp, by simp⟩⟩
    obtain ⟨H', z⟩ := l1 (b := H3.next) (black := black) (s := s) (A := A) s3 hn hm (by omega) (by omega) (Nat.le_refl _) (openL xs black).length 0 _ (List.replicate 32 0) (by omega) q2 o4 (fun c hc _ => by rw [List.getElem?_replicate, if_pos hc])
    refine ⟨H', call ⟨_, _, c1, ?_⟩⟩
    rw [if_pos hm]
    refine ⟨_, _, _, _, c2, ?_⟩
    rw [if_neg (by omega), decide_eq_false (by omega)]
    refine L0_step ?_
    rw [if_neg (by decide), e1, e2, e3]
    refine ⟨_, _, c3, _, _, c4, by omega, by omega, ?_⟩
    have key : (chanL xs black (s : Int) (A : Int) == chanL xs black (s : Int) (B : Int)) = (Int.tmod (A : Int) (((openL xs black).length : Nat) : Int) == Int.tmod (B : Int) (((openL xs black).length : Nat) : Int)) := by
      have gA := chan_nat (black := black) hne (s := s) (A := A) (by omega) (by omega)
      have gB := chan_nat (black := black) hne (s := s) (A := B) (by omega) (by omega)
      rw [Int.tmod_eq_emod_of_nonneg (by omega), Int.tmod_eq_emod_of_nonneg (by omega), ← Int.natCast_emod, ← Int.natCast_emod]
      by_cases hab : A % (openL xs black).length = B % (openL xs black).length
      · have : (s + A) % (openL xs black).length = (s + B) % (openL xs black).length := by rw [Nat.add_mod, hab, ← Nat.add_mod]
        rw [this, gB] at gA
        rw [Option.some.inj gA, hab]
        simp
      · have h1 : ¬ chanL xs black (s : Int) (A : Int) = chanL xs black (s : Int) (B : Int) := by
          intro h
          rw [h] at gA
          have := idx_inj (openL_nodup hm black) gA gB
          exact hab (mod_cancel this)
        rw [beq_eq_false_iff_ne.2 h1, beq_eq_false_iff_ne.2 (by exact_mod_cast hab)]
    rw [if_pos (by rw [key]; simp)]
    exact ⟨_, rfl, _, st, z⟩
  · obtain ⟨H2, c3, p2⟩ := F27.ok s1 hn black 5 0
    obtain ⟨H', c5, _⟩ := F21.ok H2
    rw [openL_no hm] at c2
    rw [chan_out (.inl (openL_no hm black))] at c3
    refine ⟨H', call ⟨_, _, c1, ?_⟩⟩
    rw [if_neg hm]
    refine ⟨_, _, _, _, c2, ?_⟩
    rw [if_pos (show (([] : List Int).length : Int) = 0 from rfl)]
    refine ⟨_, _, c3, ?_⟩
    rw [if_pos rfl]
    exact ⟨_, _, c5, rfl⟩
end F7
end Go.X
