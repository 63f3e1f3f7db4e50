/- What the functions of the hops come to. -/
import Derived.Test.YtnpogbgialgkhaaXzTb1
import Derived.Test.YtnpogbgialgkhaaXzK
import Derived.Test.YtnpogbgialgkhaaXzGo
set_option linter.unusedVariables false
set_option linter.unusedSimpArgs false
namespace Go.X
open Go Go.RowKit Go.Proofs
noncomputable abbrev C := xC Try.prog good
abbrev Is := Ints .i64
abbrev Ow := OwnI .i64

def blk (black c : Int) : Bool := (iand .u32 (ishr .u32 black c) 1) == 1
def okC (c : Int) : Bool := decide (0 ≤ c) && decide (c ≤ 31)
def nodupB : List Int → Bool
  | [] => true
  | c :: l => !decide (c ∈ l) && nodupB l
/-- May channels be? Read from the front: none is out of bounds, none stood ahead. -/
def mayF (pre rest : List Int) : Bool :=
  match rest with
  | [] => true
  | c :: l => okC c && !decide (c ∈ pre) && mayF (pre ++ [c]) l
def mayL (l : List Int) : Bool := mayF [] l && decide (1 ≤ l.length) && decide (l.length ≤ 16)
def openL (l : List Int) (black : Int) : List Int := if mayL l then (if l.filter (fun c => !blk black c) = [] then l else l.filter fun c => !blk black c) else []
def chanL (l : List Int) (black asn off : Int) : Int :=
  if openL l black = [] ∨ asn < 0 ∨ 1099511627776 ≤ asn ∨ off < 0 ∨ 255 < off then -1 else (openL l black).getD (((asn + off) % ((openL l black).length : Int)).toNat) 0

namespace F40
theorem l0 {H : Heap} {a : Option Addr} {n k : Nat} {xs : List Int} (c : Int) (hs : Is H a n k xs) (hn : n < 4611686018427387904) : ∀ (rest : List Int) (j : Nat), xs.drop j = rest → j + rest.length = n →
    ∃ i : Int, L0 a n k c (n : Int) (j : Int) H (.int .i64 i, H) ∧ decide (i ≥ 0) = decide (c ∈ rest) := by
  intro rest
  induction rest with
  | nil =>
    intro j hd hj
    simp only [List.length_nil] at hj
    refine ⟨-1, L0_step ?_, rfl⟩
    rw [if_neg (by omega)]
  | cons x rest ih =>
    intro j hd hj
    simp only [List.length_cons] at hj
    obtain ⟨b, o, rfl⟩ := hs.at (by omega)
    by_cases hx : c = x
    · refine ⟨(j : Int), L0_step ?_, by simp [hx]⟩
      rw [if_pos (by omega)]
      refine ⟨b, o, rfl, by omega, by omega, x, hs.get (drop_get hd), ?_⟩
      rw [if_pos hx]
    · obtain ⟨i, h1, h2⟩ := ih (j + 1) (drop_next hd) (by omega)
      refine ⟨i, L0_step ?_, by rw [h2]; simp [hx]⟩
      rw [if_pos (by omega)]
      refine ⟨b, o, rfl, by omega, by omega, x, hs.get (drop_get hd), ?_⟩
      rw [if_neg hx, i64 (by omega) (by omega)]
      exact_mod_cast h1
end F40
namespace F35
theorem ok {H : Heap} {a : Option Addr} {n k : Nat} {xs : List Int} (c : Int) (hs : Is H a n k xs) (hn : n < 4611686018427387904) : C 35 [.slice a n k, .int .i64 c] H = some (.bool (decide (c ∈ xs)), H) := by
  obtain ⟨i, h1, h2⟩ := F40.l0 c hs hn xs 0 (by simp) (by have := hs.ln; omega)
  rw [← h2]
  exact call ⟨i, H, F40.call h1, rfl⟩
end F35
theorem okC_iff (c : Int) : okC c = true ↔ ¬c < 0 ∧ ¬c > 31 := by simp [okC]
namespace F22
theorem l0 {H : Heap} {a : Option Addr} {n k : Nat} {xs : List Int} (hs : Is H a n k xs) (hn : n < 4611686018427387904) : ∀ (rest : List Int) (j : Nat), xs.drop j = rest → j + rest.length = n →
    L0 a n k a n k (n : Int) (j : Int) H (.bool (mayF (xs.take j) rest && decide (1 ≤ n) && decide (n ≤ 16)), H) := by
  intro rest
  induction rest with
  | nil =>
    intro j hd hj
    simp only [List.length_nil] at hj
    refine L0_step ?_
    rw [if_neg (by omega)]
    by_cases h1 : (n : Int) ≥ 1
    · rw [if_pos h1]
      have e1 : decide (1 ≤ n) = true := decide_eq_true (by omega)
      have e2 : decide ((n : Int) ≤ 16) = decide (n ≤ 16) := decide_eq_decide.2 (by omega)
      rw [mayF, e1, e2]
      rfl
    · rw [if_neg h1]
      have e1 : decide (1 ≤ n) = false := decide_eq_false (by omega)
      rw [e1]; simp
  | cons x rest ih =>
    intro j hd hj
    simp only [List.length_cons] at hj
    have hl := hs.ln
    have hx := drop_get hd
    obtain ⟨b, o, rfl⟩ := hs.at (by omega)
    have h1 := ih (j + 1) (drop_next hd) (by omega)
    have hbad : ∀ v : Bool, v = false → L1 (some ⟨b, o, none⟩) n k b o n k (n : Int) (j : Int) true H (.bool v, H) := fun v hv => L1_step (by rw [if_pos rfl, hv])
    refine L0_step ?_
    rw [if_pos (by omega)]
    refine ⟨b, o, rfl, by omega, by omega, x, hs.get hx, ?_⟩
    by_cases c1 : x < 0
    · rw [if_pos c1]
      refine hbad _ ?_
      have : okC x = false := by rw [Bool.eq_false_iff]; intro h; exact ((okC_iff x).1 h).1 c1
      simp [mayF, this]
    · rw [if_neg c1]
      by_cases c2 : x > 31
      · rw [if_pos c2]
        refine hbad _ ?_
        have : okC x = false := by rw [Bool.eq_false_iff]; intro h; exact ((okC_iff x).1 h).2 c2
        simp [mayF, this]
      · rw [if_neg c2]
        have ho : okC x = true := (okC_iff x).2 ⟨c1, c2⟩
        obtain ⟨a1, k1, hp, s1⟩ := Ints.part hs none (some (j : Int)) 0 j (.inl ⟨rfl, rfl⟩) (.inr rfl) (by omega) (by omega)
        rw [Nat.sub_zero, List.drop_zero] at s1
        rw [Nat.sub_zero] at hp
        refine ⟨_, _, _, hp, _, _, F35.ok x s1 (by omega), ?_⟩
        by_cases hm : x ∈ xs.take j
        · rw [decide_eq_true hm]
          refine hbad _ ?_
          simp [mayF, hm]
        · rw [decide_eq_false hm]
          refine L1_step ?_
          rw [if_neg (by decide), i64 (by omega) (by omega)]
          have e : mayF (xs.take j) (x :: rest) = mayF (xs.take (j + 1)) rest := by
            rw [mayF, ho, decide_eq_false hm, List.take_add_one, hx]
            rfl
          rw [e]
          exact_mod_cast h1
theorem ok {H : Heap} {a : Option Addr} {n k : Nat} {xs : List Int} (hs : Is H a n k xs) (hn : n < 4611686018427387904) : C 22 [.slice a n k] H = some (.bool (mayL xs), H) := by
  have h := l0 hs hn xs 0 (by simp) (by have := hs.ln; omega)
  refine call ?_
  unfold mayL
  rw [hs.ln]
  exact h
end F22

namespace F23
theorem l3 {H : Heap} {a a1 : Option Addr} {n k n1 k1 b o : Nat} {ys : List Int} {c : Int} (hs : Is H a1 n1 k1 ys) (hn : n1 < 4611686018427387904) (t16 t17 : Int) {r : Value × Heap} (hin : c ∉ ys → L1 a n k (some ⟨b, o, none⟩) n k t16 (IntKind.wrap .i64 (t17 + 1)) H r) (hbad : c ∈ ys → r = (.bool false, H)) :
    ∀ (rest : List Int) (j : Nat), ys.drop j = rest → j + rest.length = n1 → (c ∈ ys → c ∈ rest) → L3 a n k c b o n k t16 t17 a1 n1 k1 (n1 : Int) (j : Int) H r := by
  intro rest
  induction rest with
  | nil =>
    intro j hd hj hm
    simp only [List.length_nil] at hj
    refine L3_step ?_
    rw [if_neg (by omega)]
    exact hin fun h => by cases hm h
  | cons x rest ih =>
    intro j hd hj hm
    simp only [List.length_cons] at hj
    obtain ⟨b1, o1, rfl⟩ := hs.at (by omega)
    have hx := drop_get hd
    refine L3_step ?_
    rw [if_pos (by omega)]
    refine ⟨b1, o1, rfl, by omega, by omega, x, hs.get hx, ?_⟩
    by_cases hc : c = x
    · rw [if_pos hc]
      exact hbad (hc ▸ List.mem_of_getElem? hx)
    · rw [if_neg hc, i64 (by omega) (by omega)]
      have := ih (j + 1) (drop_next hd) (by omega) (fun h => by
        rcases List.mem_cons.1 (hm h) with h | h
        · exact absurd h hc
        · exact h)
      exact_mod_cast this
theorem l1 {H : Heap} {a : Option Addr} {n k : Nat} {xs : List Int} (hs : Is H a n k xs) (hn : n < 4611686018427387904) : ∀ (rest : List Int) (j : Nat), xs.drop j = rest → j + rest.length = n →
    L1 a n k a n k (n : Int) (j : Int) H (.bool (mayF (xs.take j) rest), H) := by
  intro rest
  induction rest with
  | nil =>
    intro j hd hj
    simp only [List.length_nil] at hj
    refine L1_step ?_
    rw [if_neg (by omega)]
    rfl
  | cons x rest ih =>
    intro j hd hj
    simp only [List.length_cons] at hj
    have hl := hs.ln
    have hx := drop_get hd
    obtain ⟨b, o, rfl⟩ := hs.at (by omega)
    have h1 := ih (j + 1) (drop_next hd) (by omega)
    have hbad : ∀ v : Bool, v = false → L2 (some ⟨b, o, none⟩) n k (j : Int) x b o n k (n : Int) (j : Int) true H (.bool v, H) := fun v hv => L2_step (by rw [if_pos rfl, hv])
    refine L1_step ?_
    rw [if_pos (by omega)]
    refine ⟨b, o, rfl, by omega, by omega, x, hs.get hx, ?_⟩
    by_cases c1 : x < 0
    · rw [if_pos c1]
      refine hbad _ ?_
      have : okC x = false := by rw [Bool.eq_false_iff]; intro h; exact ((okC_iff x).1 h).1 c1
      simp [mayF, this]
    · rw [if_neg c1]
      by_cases c2 : x > 31
      · rw [decide_eq_true c2]
        refine hbad _ ?_
        have : okC x = false := by rw [Bool.eq_false_iff]; intro h; exact ((okC_iff x).1 h).2 c2
        simp [mayF, this]
      · rw [decide_eq_false c2]
        have ho : okC x = true := (okC_iff x).2 ⟨c1, c2⟩
        obtain ⟨a1, k1, hp, s1⟩ := Ints.part hs none (some (j : Int)) 0 j (.inl ⟨rfl, rfl⟩) (.inr rfl) (by omega) (by omega)
        rw [Nat.sub_zero, List.drop_zero] at s1
        rw [Nat.sub_zero] at hp
        refine L2_step ?_
        rw [if_neg (by decide)]
        refine ⟨_, _, _, hp, ?_⟩
        by_cases hm : x ∈ xs.take j
        · have hf : mayF (xs.take j) (x :: rest) = false := by simp [mayF, hm]
          rw [hf]
          exact l3 s1 (by omega) _ _ (fun h => absurd hm h) (fun _ => rfl) _ 0 (List.drop_zero) (by have := s1.ln; omega) (fun h => h)
        · have e : mayF (xs.take j) (x :: rest) = mayF (xs.take (j + 1)) rest := by
            rw [mayF, ho, decide_eq_false hm, List.take_add_one, hx]
            rfl
          rw [e]
          refine l3 s1 (by omega) _ _ (fun _ => ?_) (fun h => absurd h hm) _ 0 (List.drop_zero) (by have := s1.ln; omega) (fun h => h)
          rw [i64 (by omega) (by omega)]
          exact_mod_cast h1
theorem ok {H : Heap} {a : Option Addr} {n k : Nat} {xs : List Int} (hs : Is H a n k xs) (hn : n < 4611686018427387904) : C 23 [.slice a n k] H = some (.bool (mayL xs), H) := by
  have h := l1 hs hn xs 0 (by simp) (by have := hs.ln; omega)
  have hl := hs.ln
  refine call ?_
  unfold mayL
  rw [hl]
  by_cases h1 : (n : Int) < 1
  · rw [if_pos h1, decide_eq_false (by omega : ¬1 ≤ n)]
    refine L0_step ?_
    rw [if_pos rfl]
    simp
  · rw [if_neg h1, decide_eq_true (by omega : 1 ≤ n)]
    by_cases h2 : (n : Int) > 16
    · rw [decide_eq_true h2, decide_eq_false (by omega : ¬n ≤ 16)]
      refine L0_step ?_
      rw [if_pos rfl]
      simp
    · rw [decide_eq_false h2, decide_eq_true (by omega : n ≤ 16)]
      refine L0_step ?_
      rw [if_neg (by decide)]
      simpa using h
end F23
namespace F24
theorem l0 {H : Heap} {a a1 : Option Addr} {n k k1 : Nat} {xs ys : List Int} (hs : Is H a n k xs) (hs1 : Is H a1 n k1 ys) (hn : n < 4611686018427387904) : ∀ (rest rest1 : List Int) (j : Nat), xs.drop j = rest → ys.drop j = rest1 → j + rest.length = n →
    L0 a n k a1 n k1 (n : Int) (j : Int) H (.bool (decide (rest = rest1)), H) := by
  intro rest
  induction rest with
  | nil =>
    intro rest1 j hd hd1 hj
    simp only [List.length_nil] at hj
    have : rest1 = [] := List.eq_nil_of_length_eq_zero (by rw [← hd1, List.length_drop, hs1.ln]; omega)
    subst this
    refine L0_step ?_
    rw [if_neg (by omega)]
    rfl
  | cons x rest ih =>
    intro rest1 j hd hd1 hj
    simp only [List.length_cons] at hj
    cases rest1 with
    | nil => have := congrArg List.length hd1; rw [List.length_drop, hs1.ln] at this; simp at this; omega
    | cons y rest1 =>
      obtain ⟨b, o, rfl⟩ := hs.at (by omega)
      obtain ⟨b1, o1, rfl⟩ := hs1.at (by omega)
      refine L0_step ?_
      rw [if_pos (by omega)]
      refine ⟨b, o, rfl, by omega, by omega, x, hs.get (drop_get hd), b1, o1, rfl, by omega, by omega, y, hs1.get (drop_get hd1), ?_⟩
      by_cases hxy : x = y
      · rw [if_pos hxy, i64 (by omega) (by omega)]
        have := ih rest1 (j + 1) (drop_next hd) (drop_next hd1) (by omega)
        have e : decide (x :: rest = y :: rest1) = decide (rest = rest1) := by simp [hxy]
        rw [e]
        exact_mod_cast this
      · rw [if_neg hxy]
        have e : decide (x :: rest = y :: rest1) = false := by simp [hxy]
        rw [e]
theorem ok {H : Heap} {a a1 : Option Addr} {n n1 k k1 : Nat} {xs ys : List Int} (hs : Is H a n k xs) (hs1 : Is H a1 n1 k1 ys) (hn : n < 4611686018427387904) : C 24 [.slice a n k, .slice a1 n1 k1] H = some (.bool (decide (xs = ys)), H) := by
  refine call ?_
  by_cases h : n = n1
  · subst h
    rw [if_pos rfl]
    exact l0 hs hs1 hn xs ys 0 (by simp) (by simp) (by have := hs.ln; omega)
  · rw [if_neg (by omega)]
    have : ¬ xs = ys := by rintro rfl; exact h (hs.ln.symm.trans hs1.ln)
    simp [this]
end F24
namespace F37
theorem ok {H : Heap} {a : Option Addr} {n k : Nat} {xs : List Int} (hs : Is H a n k xs) (hn : n ≤ 17592186044416) : ∃ a' k' H', C 37 [.slice a n k] H = some (.slice a' n k', H') ∧ Ow H.next H' a' n k' xs ∧ Keep H.next H H' := by
  by_cases h0 : a.isNone = true
  · have : a = none := by simpa using h0
    subst this
    obtain ⟨hl, ⟨_, rfl, rfl⟩ | ⟨h, _⟩ | ⟨b, o, h, _⟩⟩ := hs
    · refine ⟨none, 0, H, call ?_, ⟨hl, .inl ⟨rfl, rfl, rfl⟩⟩, Keep.refl _ _⟩
      rw [if_pos h0]
    · cases h
    · cases h
  · have e := OwnI.new (K := .i64) H []
    have hk := Keep.push (H := H) (.row [] true) (Nat.le_refl H.next)
    obtain ⟨a', k', H', h1, h2, h3⟩ := OwnI.app 8 e (hs.keep hk) (by simp) (by simp; omega) (by simp; omega)
    simp only [List.length_nil, Nat.zero_add, List.nil_append] at h1 h2
    refine ⟨a', k', H', call ?_, h2, hk.trans h3⟩
    rw [if_neg h0]
    exact ⟨_, rfl, _, _, _, _, h1, rfl⟩
end F37
namespace F38
theorem ok {H : Heap} {b : Nat} {black : Int} (c : Int) (h0 : 0 ≤ c) (hb : ldc H b 0 = some (.int .u32 black)) : C 38 [.int .i64 c, .pointer (some ⟨b, 0, none⟩)] H = some (.bool (blk black c), H) := by
  exact call ⟨b, 0, rfl, _, hb, h0, rfl⟩
end F38
theorem goes38 : fnGoes Try.prog 38 = true := by kernel_rfl
/-- The first that is black. -/
def firstB (black : Int) : List Int → Option Nat
  | [] => none
  | x :: l => if blk black x then some 0 else (firstB black l).map (· + 1)
namespace F41
theorem l0 {H : Heap} {a : Option Addr} {n k b : Nat} {black : Int} {xs : List Int} (hs : Is H a n k xs) (hn : n < 4611686018427387904) (hb : ldc H b 0 = some (.int .u32 black)) (hp : ∀ x ∈ xs, 0 ≤ x) : ∀ (rest : List Int) (j : Nat), xs.drop j = rest → j + rest.length = n →
    L0 a n k (.func (.func 38) #[] #[.pointer (some ⟨b, 0, none⟩)]) (n : Int) (j : Int) H (.int .i64 (match firstB black rest with | some i => ((j + i : Nat) : Int) | none => -1), H) := by
  intro rest
  induction rest with
  | nil =>
    intro j hd hj
    simp only [List.length_nil] at hj
    refine L0_step ?_
    rw [if_neg (by omega)]
    rfl
  | cons x rest ih =>
    intro j hd hj
    simp only [List.length_cons] at hj
    have hx := drop_get hd
    obtain ⟨b1, o, rfl⟩ := hs.at (by omega)
    refine L0_step ?_
    rw [if_pos (by omega)]
    refine ⟨b1, o, rfl, by omega, by omega, x, hs.get hx, _, _, _, rfl, goes38, _, _, F38.ok x (hp x (List.mem_of_getElem? hx)) hb, ?_⟩
    unfold firstB
    by_cases h : blk black x = true
    · rw [if_pos h, if_pos h]
      rfl
    · rw [if_neg h, if_neg h, i64 (by omega) (by omega)]
      have := ih (j + 1) (drop_next hd) (by omega)
      cases hf : firstB black rest with
      | none => rw [hf] at this; simp only [Option.map_none]; exact_mod_cast this
      | some i =>
        rw [hf] at this
        simp only [Option.map_some]
        rw [show j + (i + 1) = j + 1 + i by omega]
        exact_mod_cast this
theorem ok {H : Heap} {a : Option Addr} {n k b : Nat} {black : Int} {xs : List Int} (hs : Is H a n k xs) (hn : n < 4611686018427387904) (hb : ldc H b 0 = some (.int .u32 black)) (hp : ∀ x ∈ xs, 0 ≤ x) :
    C 41 [.slice a n k, .func (.func 38) #[] #[.pointer (some ⟨b, 0, none⟩)]] H = some (.int .i64 (match firstB black xs with | some i => (i : Int) | none => -1), H) := by
  have := l0 hs hn hb hp xs 0 (by simp) (by have := hs.ln; omega)
  refine call ?_
  simpa using this
end F41

theorem ldc_keep {H H' : Heap} {base b o : Nat} {v : Value} (h : ldc H b o = some v) (k : Keep base H H') (hb : b < base) : ldc H' b o = some v := by
  unfold ldc at h ⊢; rw [k.get b hb]; exact h
abbrev kept (black : Int) (xs : List Int) : List Int := xs.filter fun c => !blk black c
theorem first_none {black : Int} : ∀ {xs : List Int}, firstB black xs = none → kept black xs = xs
  | [], _ => rfl
  | x :: l, h => by
    unfold firstB at h
    split at h
    · cases h
    · rename_i hb
      rw [Option.map_eq_none_iff] at h
      show List.filter _ _ = _
      rw [List.filter_cons, if_pos (by simpa using hb)]
      exact congrArg (x :: ·) (first_none h)
theorem first_some {black : Int} : ∀ {xs : List Int} {i : Nat}, firstB black xs = some i → i < xs.length ∧ kept black (xs.take (i + 1)) = xs.take i
  | [], _, h => by cases h
  | x :: l, i, h => by
    unfold firstB at h
    split at h
    · rename_i hb
      cases h
      refine ⟨by simp, ?_⟩
      show List.filter _ _ = _
      simp [hb]
    · rename_i hb
      obtain ⟨j, hj, rfl⟩ := Option.map_eq_some_iff.1 h
      obtain ⟨h1, h2⟩ := first_some hj
      refine ⟨by simpa using h1, ?_⟩
      show List.filter _ _ = _
      rw [List.take_succ_cons, List.filter_cons, if_pos (by simpa using hb), List.take_succ_cons]
      congr 1
theorem ld_own {base : Nat} {H : Heap} {b o n k : Nat} {ys : List Int} (h : Ow base H (some ⟨b, o, none⟩) n k ys) {i : Nat} {x : Int} (hx : ys[i]? = some x) : ldc H b (o + Int.toNat (i : Int) * 1) = some (.int .i64 x) := Ints.get h.sl hx
namespace F36
theorem l0 {base b o n k bb : Nat} {black : Int} {xs : List Int} (hn : n < 4611686018427387904) (hbb : bb < base) (hp : ∀ x ∈ xs, 0 ≤ x) (hxn : xs.length = n) : ∀ (m j i : Nat) (H : Heap) (ys : List Int), j + m = n → i ≤ j → Ow base H (some ⟨b, o, none⟩) n k ys → ldc H bb 0 = some (.int .u32 black) →
    ys.take i = kept black (xs.take j) → ys.drop j = xs.drop j → ∃ H', L0 (some ⟨b, o, none⟩) n k (.func (.func 38) #[] #[.pointer (some ⟨bb, 0, none⟩)]) (i : Int) (j : Int) H (.slice (some ⟨b, o, none⟩) (kept black xs).length k, H') ∧ Ow base H' (some ⟨b, o, none⟩) (kept black xs).length k (kept black xs) ∧ Keep base H H' := by
  intro m
  induction m with
  | zero =>
    intro j i H ys hj hij ho hb h1 h2
    have e : j = n := by omega
    subst e
    have hxt : xs.take j = xs := List.take_of_length_le (by omega)
    rw [hxt] at h1
    have hlen : (kept black xs).length = i := by rw [← h1, List.length_take, ho.ln]; omega
    obtain ⟨a', k', H1, p1, p2, o1, q1⟩ := Own.clearTail ho (.int .i64 0) hij
    rw [← List.map_take, h1] at o1
    have hk : k = UNK 1 := by
      obtain ⟨_, ⟨h0, _⟩ | ⟨_, _, _, _, h, _⟩⟩ := ho
      · cases h0
      · exact h
    refine ⟨H1, L0_step ?_, by rw [hlen]; exact o1, q1⟩
    rw [if_neg (by omega), hlen]
    exact ⟨_, _, _, p1, _, p2, _, _, _, psl_front hij hk, rfl⟩
  | succ m ih =>
    intro j i H ys hj hij ho hb h1 h2
    have hx : xs[j]? = some xs[j] := List.getElem?_eq_getElem (by omega)
    have hy : ys[j]? = some xs[j] := by
      have := congrArg (·[0]?) h2
      simp only [List.getElem?_drop, Nat.add_zero] at this
      rw [this, hx]
    have e1 : kept black (xs.take (j + 1)) = kept black (xs.take j) ++ kept black [xs[j]] := by
      show List.filter _ _ = _
      rw [List.take_add_one, hx, List.filter_append]; rfl
    have d2 : ∀ zs : List Int, zs.drop j = xs.drop j → zs.drop (j + 1) = xs.drop (j + 1) := fun zs h => by rw [← List.drop_drop, h, List.drop_drop]
    by_cases hk : blk black xs[j] = true
    · have e2 : kept black [xs[j]] = [] := by simp [kept, hk]
      obtain ⟨H', z1, z2, z3⟩ := ih (j + 1) i H ys (by omega) (by omega) ho hb (by rw [h1, e1, e2, List.append_nil]) (d2 _ h2)
      refine ⟨H', L0_step ?_, z2, z3⟩
      rw [if_pos (by omega)]
      refine ⟨b, o, rfl, by omega, by omega, xs[j], ld_own ho hy, _, _, _, rfl, goes38, _, _, F38.ok _ (hp _ (List.getElem_mem (by omega))) hb, ?_⟩
      rw [if_pos hk, i64 (by omega) (by omega)]
      exact_mod_cast z1
    · have e2 : kept black [xs[j]] = [xs[j]] := by simp [kept, hk]
      obtain ⟨H1, c1, o1, q1, _⟩ := ho.put (i := i) (by omega) xs[j]
      have hyl := ho.ln
      obtain ⟨H', z1, z2, z3⟩ := ih (j + 1) (i + 1) H1 (ys.set i xs[j]) (by omega) (by omega) o1 (ldc_keep hb q1 hbb) (by
        rw [e1, e2, ← h1, List.take_add_one, List.getElem?_set, if_pos rfl, if_pos (by omega), List.take_set_of_le (Nat.le_refl _)]; rfl) (by
        rw [List.drop_set_of_lt (by omega)]; exact d2 _ h2)
      refine ⟨H', L0_step ?_, z2, q1.trans z3⟩
      rw [if_pos (by omega)]
      refine ⟨b, o, rfl, by omega, by omega, xs[j], ld_own ho hy, _, _, _, rfl, goes38, _, _, F38.ok _ (hp _ (List.getElem_mem (by omega))) hb, ?_⟩
      rw [if_neg hk]
      refine ⟨by omega, by omega, H1, c1, ?_⟩
      rw [i64 (by omega) (by omega), i64 (by omega) (by omega)]
      exact_mod_cast z1
theorem ok {base n k bb : Nat} {a : Option Addr} {black : Int} {xs : List Int} {H : Heap} (ho : Ow base H a n k xs) (hn : n < 4611686018427387904) (hbb : bb < base) (hp : ∀ x ∈ xs, 0 ≤ x) (hb : ldc H bb 0 = some (.int .u32 black)) :
    ∃ a' k' H', C 36 [.slice a n k, .func (.func 38) #[] #[.pointer (some ⟨bb, 0, none⟩)]] H = some (.slice a' (kept black xs).length k', H') ∧ Ow base H' a' (kept black xs).length k' (kept black xs) ∧ Keep base H H' := by
  have c := F41.ok ho.sl hn hb hp
  have hl := ho.ln
  cases hf : firstB black xs with
  | none =>
    rw [hf] at c
    have e := first_none hf
    refine ⟨a, k, H, ?_, by rw [e, hl]; exact ho, Keep.refl _ _⟩
    rw [e, hl]
    refine call ⟨_, _, c, ?_⟩
    rw [if_pos rfl]
  | some i =>
    rw [hf] at c
    obtain ⟨hi, hk⟩ := first_some hf
    obtain ⟨b, o, rfl⟩ := ho.sl.at (by omega)
    obtain ⟨H', z1, z2, z3⟩ := l0 hn hbb hp hl (n - (i + 1)) (i + 1) i H xs (by omega) (by omega) ho hb hk.symm rfl
    refine ⟨_, _, H', call ⟨_, _, c, ?_⟩, z2, z3⟩
    rw [if_neg (by simp only; omega)]
    simp only
    rw [i64 (by omega) (by omega)]
    exact_mod_cast z1
end F36
theorem mayL_of {xs : List Int} (h : mayL xs = true) : 1 ≤ xs.length ∧ xs.length ≤ 16 ∧ (∀ x ∈ xs, 0 ≤ x ∧ x ≤ 31) ∧ xs.Nodup := by
  unfold mayL at h
  simp only [Bool.and_eq_true, decide_eq_true_eq] at h
  obtain ⟨⟨h1, h2⟩, h3⟩ := h
  have key : ∀ (rest pre : List Int), mayF pre rest = true → (∀ x ∈ rest, 0 ≤ x ∧ x ≤ 31) ∧ rest.Nodup ∧ ∀ x ∈ rest, x ∉ pre := by
    intro rest
    induction rest with
    | nil => intro pre _; simp
    | cons c l ih =>
      intro pre hm
      rw [mayF] at hm
      simp only [Bool.and_eq_true, Bool.not_eq_true', decide_eq_false_iff_not] at hm
      obtain ⟨⟨m1, m2⟩, m3⟩ := hm
      obtain ⟨i1, i2, i3⟩ := ih _ m3
      have oc := (okC_iff c).1 m1
      refine ⟨fun x hx => ?_, List.nodup_cons.2 ⟨fun hc => i3 c hc (by simp), i2⟩, fun x hx => ?_⟩
      · rcases List.mem_cons.1 hx with rfl | hx
        · omega
        · exact i1 x hx
      · rcases List.mem_cons.1 hx with rfl | hx
        · exact m2
        · exact fun h => i3 x hx (by simp [h])
  obtain ⟨k1, k2, _⟩ := key xs [] h1
  exact ⟨h2, h3, k1, k2⟩
namespace F25
theorem ok {a : Option Addr} {n k : Nat} {xs : List Int} {H : Heap} (hs : Is H a n k xs) (hn : n < 4611686018427387904) (black : Int) : ∃ a' k' H', C 25 [.slice a n k, .int .u32 black] H = some (.slice a' (openL xs black).length k', H') ∧ Ow H.next H' a' (openL xs black).length k' (openL xs black) ∧ Keep H.next H H' := by
  have p1 := Keep.push (H := H) (.row [.int .u32 black] true) (Nat.le_refl H.next)
  have s1 := hs.keep p1
  have c1 := F22.ok s1 hn
  have b1 : ldc (H.push (.row [.int .u32 black] true)) H.next 0 = some (.int .u32 black) := by unfold ldc; simp
  by_cases hm : mayL xs = true
  · obtain ⟨m1, m2, m3, _⟩ := mayL_of hm
    have hl := hs.ln
    obtain ⟨a2, k2, H2, c2, o2, p2⟩ := F37.ok s1 (by omega)
    obtain ⟨a3, k3, H3, c3, o3, p3⟩ := F36.ok (bb := H.next) o2 hn (by simp) (fun x hx => (m3 x hx).1) (ldc_keep b1 p2 (by simp))
    have q3 : Keep H.next H H3 := p1.trans ((p2.weak (by simp)).trans (p3.weak (by simp)))
    by_cases he : kept black xs = []
    · have e : openL xs black = xs := by unfold openL; rw [if_pos hm, if_pos he]
      obtain ⟨a4, k4, H4, c4, o4, p4⟩ := F37.ok (hs.keep q3) (by omega)
      rw [e, hl]
      refine ⟨a4, k4, H4, call ⟨_, rfl, _, _, c1, ?_⟩, o4.weak q3.next, q3.trans (p4.weak q3.next)⟩
      rw [if_pos hm]
      refine ⟨_, _, _, _, c2, _, _, _, _, c3, ?_⟩
      rw [if_pos (by rw [he]; rfl)]
      exact ⟨_, _, _, _, c4, rfl⟩
    · have e : openL xs black = kept black xs := by unfold openL; rw [if_pos hm, if_neg he]
      rw [e]
      refine ⟨a3, k3, H3, call ⟨_, rfl, _, _, c1, ?_⟩, o3.weak (by simp), q3⟩
      rw [if_pos hm]
      refine ⟨_, _, _, _, c2, _, _, _, _, c3, ?_⟩
      rw [if_neg (by have := List.length_pos_iff.2 he; omega)]
  · have e : openL xs black = [] := by unfold openL; rw [if_neg hm]
    rw [e]
    refine ⟨none, 0, H.push (.row [.int .u32 black] true), call ⟨_, rfl, _, _, c1, ?_⟩, OwnI.nil, p1⟩
    rw [if_neg hm]
    rfl
end F25
end Go.X
