/- What the functions of the slots come to. -/
import Derived.Test.YtomibdncbioijaaXzTdS
import Derived.Test.YtomibdncbioijaaXzLib
import Derived.Test.YtomibdncbioijaaXzDF
set_option linter.unusedVariables false
set_option linter.unusedSimpArgs false
set_option maxRecDepth 20000
namespace Go.X
open Go Go.RowKit Go.Proofs
noncomputable abbrev Cd := xC Try.prog good
/-- A cell of a slotframe. -/
structure C5 where
  f : Int
  s : Int
  c : Int
  o : Int
  p : Int
  deriving DecidableEq
abbrev C5.cells (c : C5) : List Value := [.int .i64 c.f, .int .i64 c.s, .int .i64 c.c, .int .i64 c.o, .int .i64 c.p]
abbrev C5.agg (c : C5) : Value := .agg #[.int .i64 c.f, .int .i64 c.s, .int .i64 c.c, .int .i64 c.o, .int .i64 c.p]
theorem C5.z (c : C5) : c.cells.length = 5 := rfl
abbrev c50 : C5 := ⟨0, 0, 0, 0, 0⟩
/-- Slices of cells. -/
abbrev Cells (H : Heap) (a : Option Addr) (n k : Nat) (l : List C5) : Prop := Sl H 5 a n k (l.flatMap C5.cells)
def inP (x a b : Int) : Prop := a ≤ x ∧ x ≤ b
instance (x a b : Int) : Decidable (inP x a b) := by unfold inP; infer_instance
def mayC (c : C5) : Prop := inP c.f 0 3 ∧ inP c.s 0 199 ∧ inP c.c 0 15 ∧ inP c.o 1 15 ∧ iand .i64 c.o 3 ≠ 0 ∧ (iand .i64 c.o 4 = 0 ∨ iand .i64 c.o 1 ≠ 0) ∧ (inP c.p 0 15 ∨ c.p = 64)
instance (c : C5) : Decidable (mayC c) := by unfold mayC; infer_instance
theorem mayC_p {c : C5} (c1 : inP c.f 0 3) (c2 : inP c.s 0 199) (c3 : inP c.c 0 15) (c4 : inP c.o 1 15) (c5 : iand .i64 c.o 3 ≠ 0) (c6 : iand .i64 c.o 4 = 0 ∨ iand .i64 c.o 1 ≠ 0) (c7 : ¬inP c.p 0 15) : (c.p == 64) = decide (mayC c) := by
  by_cases h : c.p = 64
  · have hm : mayC c := ⟨c1, c2, c3, c4, c5, c6, .inr h⟩
    rw [decide_eq_true hm]; simp [h]
  · have hm : ¬mayC c := fun m => h (m.2.2.2.2.2.2.resolve_left c7)
    rw [decide_eq_false hm]; simp [h]
theorem mayC_yes {c : C5} (c1 : inP c.f 0 3) (c2 : inP c.s 0 199) (c3 : inP c.c 0 15) (c4 : inP c.o 1 15) (c5 : iand .i64 c.o 3 ≠ 0) (c6 : iand .i64 c.o 4 = 0 ∨ iand .i64 c.o 1 ≠ 0) (c7 : inP c.p 0 15) : true = decide (mayC c) := (decide_eq_true (show mayC c from ⟨c1, c2, c3, c4, c5, c6, .inl c7⟩)).symm
namespace F38
theorem ok (x a b : Int) (H : Heap) : Cd 38 [.int .i64 x, .int .i64 a, .int .i64 b] H = some (.bool (decide (inP x a b)), H) := by
  refine call ?_
  by_cases h : x ≥ a
  · rw [if_pos h, show decide (x ≤ b) = decide (inP x a b) from decide_eq_decide.2 ⟨fun h' => ⟨h, h'⟩, fun h' => h'.2⟩]
  · rw [if_neg h, decide_eq_false fun h' => h h'.1]
end F38
namespace F17
theorem l0 {H : Heap} {b : Nat} {c : C5} (g : H.get b = .row c.cells true) : L0 b 0 (!((iand .i64 c.o 3) == 0)) (if iand .i64 c.o 4 = 0 then false else ((iand .i64 c.o 1) == 0)) H (.bool (decide (mayC c)), H) := by
  refine L0_step ⟨_, rldc' g 0, _, _, F38.ok _ _ _ _, ?_⟩
  by_cases c1 : inP c.f 0 3
  · rw [if_pos (by simpa using c1)]
    refine ⟨_, rldc' g 1, _, _, F38.ok _ _ _ _, ?_⟩
    by_cases c2 : inP c.s 0 199
    · rw [if_pos (by simpa using c2)]
      refine ⟨_, rldc' g 2, _, _, F38.ok _ _ _ _, ?_⟩
      by_cases c3 : inP c.c 0 15
      · rw [if_pos (by simpa using c3)]
        refine ⟨_, rldc' g 3, _, _, F38.ok _ _ _ _, ?_⟩
        by_cases c4 : inP c.o 1 15
        · rw [if_pos (by simpa using c4)]
          by_cases c5 : iand .i64 c.o 3 = 0
          · rw [if_neg (by simp [c5]), decide_eq_false fun m => m.2.2.2.2.1 c5]
          · rw [if_pos (by simp [c5])]
            by_cases c6 : iand .i64 c.o 4 = 0 ∨ iand .i64 c.o 1 ≠ 0
            · rw [if_neg (by
                by_cases h4 : iand .i64 c.o 4 = 0
                · rw [if_pos h4]; simp
                · rw [if_neg h4]; simpa using c6.resolve_left h4)]
              refine ⟨_, rldc' g 4, _, _, F38.ok _ _ _ _, ?_⟩
              by_cases c7 : inP c.p 0 15
              · rw [if_pos (by simpa using c7), mayC_yes c1 c2 c3 c4 c5 c6 c7]
              · rw [if_neg (by simpa using c7)]
                refine ⟨_, rldc' g 4, ?_⟩
                rw [mayC_p c1 c2 c3 c4 c5 c6 c7]
            · rw [if_pos (by
                by_cases h4 : iand .i64 c.o 4 = 0
                · exact absurd (.inl h4) c6
                · rw [if_neg h4]; simpa using fun h => c6 (.inr h)), decide_eq_false fun m => c6 m.2.2.2.2.2.1]
        · rw [if_neg (by simpa using c4), decide_eq_false fun m => c4 m.2.2.2.1]
      · rw [if_neg (by simpa using c3), decide_eq_false fun m => c3 m.2.2.1]
    · rw [if_neg (by simpa using c2), decide_eq_false fun m => c2 m.2.1]
  · rw [if_neg (by simpa using c1), decide_eq_false fun m => c1 m.1]
theorem ok (c : C5) (H : Heap) : ∃ H', Cd 17 [c.agg] H = some (.bool (decide (mayC c)), H') ∧ Keep H.next H H' := by
  obtain ⟨H1, e1, n1, g1, k1⟩ := one H c.cells
  have z := l0 g1
  refine ⟨H1, call ⟨_, e1, _, rldc' g1 3, _, rldc' g1 3, ?_⟩, k1⟩
  by_cases h4 : iand .i64 c.o 4 = 0
  · rw [if_pos h4] at z ⊢; exact z
  · rw [if_neg h4] at z ⊢; exact ⟨_, rldc' g1 3, z⟩
end F17
namespace F37
theorem ok (x : Int) (H : Heap) : Cd 37 [.int .i64 x] H = some (.bool (decide (inP x 0 15)), H) := by
  refine call ?_
  by_cases h : x ≥ 0
  · rw [if_pos h, show decide (x < 16) = decide (inP x 0 15) from decide_eq_decide.2 ⟨fun h' => ⟨h, by omega⟩, fun h' => by have := h'.2; omega⟩]
  · rw [if_neg h, decide_eq_false fun h' => h h'.1]
end F37
namespace F15
theorem ok (c : C5) (H : Heap) : ∃ H', Cd 15 [c.agg] H = some (.bool (decide (mayC c)), H') ∧ Keep H.next H H' := by
  obtain ⟨H1, e1, n1, g1, k1⟩ := one H c.cells
  refine ⟨H1, call ⟨_, e1, _, rldc' g1 0, ?_⟩, k1⟩
  have fin : ∀ (c1 : inP c.f 0 3) (c2 : inP c.s 0 199) (c3 : inP c.c 0 15) (c4 : inP c.o 1 15) (c5 : iand .i64 c.o 3 ≠ 0) (c6 : iand .i64 c.o 4 = 0 ∨ iand .i64 c.o 1 ≠ 0), ∃ (t61 : Int), ldc H1 H.next 4 = some (.int .i64 t61) ∧ ∃ (t62 : Bool) (H_2 : Heap), Cd 37 [.int .i64 t61] H1 = some (.bool t62, H_2) ∧
      if t62 = true then ((Value.bool (decide (mayC c)), H1) : Value × Heap) = (.bool true, H_2) else ∃ (t65 : Int), ldc H_2 H.next 4 = some (.int .i64 t65) ∧ ((Value.bool (decide (mayC c)), H1) : Value × Heap) = (.bool (t65 == 64), H_2) := by
    intro c1 c2 c3 c4 c5 c6
    refine ⟨_, rldc' g1 4, _, _, F37.ok _ _, ?_⟩
    by_cases c7 : inP c.p 0 15
    · rw [if_pos (by simpa using c7), mayC_yes c1 c2 c3 c4 c5 c6 c7]
    · rw [if_neg (by simpa using c7)]
      refine ⟨_, rldc' g1 4, ?_⟩
      rw [mayC_p c1 c2 c3 c4 c5 c6 c7]
  by_cases d1 : c.f ≥ 0
  · rw [if_pos d1]
    refine ⟨_, rldc' g1 0, ?_⟩
    by_cases d2 : c.f < 4
    · rw [if_pos d2]
      refine ⟨_, rldc' g1 1, ?_⟩
      by_cases d3 : c.s ≥ 0
      · rw [if_pos d3]
        refine ⟨_, rldc' g1 1, ?_⟩
        by_cases d4 : c.s < 200
        · rw [if_pos d4]
          refine ⟨_, rldc' g1 2, ?_⟩
          by_cases d5 : c.c ≥ 0
          · rw [if_pos d5]
            refine ⟨_, rldc' g1 2, ?_⟩
            by_cases d6 : c.c ≤ 15
            · rw [if_pos d6]
              refine ⟨_, rldc' g1 3, ?_⟩
              by_cases d7 : c.o ≥ 1
              · rw [if_pos d7]
                refine ⟨_, rldc' g1 3, ?_⟩
                by_cases d8 : c.o ≤ 15
                · rw [if_pos d8]
                  refine ⟨_, rldc' g1 3, ?_⟩
                  by_cases d9 : iand .i64 c.o 3 = 0
                  · rw [if_pos d9, decide_eq_false fun m => m.2.2.2.2.1 d9]
                  · rw [if_neg d9]
                    refine ⟨_, rldc' g1 3, ?_⟩
                    by_cases e4 : iand .i64 c.o 4 = 0
                    · rw [if_pos e4]
                      exact fin ⟨d1, by omega⟩ ⟨d3, by omega⟩ ⟨d5, d6⟩ ⟨d7, d8⟩ d9 (.inl e4)
                    · rw [if_neg e4]
                      refine ⟨_, rldc' g1 3, ?_⟩
                      by_cases e1 : iand .i64 c.o 1 = 0
                      · rw [if_pos e1, decide_eq_false fun m => by rcases m.2.2.2.2.2.1 with h | h; exact e4 h; exact h e1]
                      · rw [if_neg e1]
                        exact fin ⟨d1, by omega⟩ ⟨d3, by omega⟩ ⟨d5, d6⟩ ⟨d7, d8⟩ d9 (.inr e1)
                · rw [if_neg d8, decide_eq_false fun m => d8 m.2.2.2.1.2]
              · rw [if_neg d7, decide_eq_false fun m => d7 m.2.2.2.1.1]
            · rw [if_neg d6, decide_eq_false fun m => d6 m.2.2.1.2]
          · rw [if_neg d5, decide_eq_false fun m => d5 m.2.2.1.1]
        · rw [if_neg d4, decide_eq_false fun m => by have := m.2.1.2; omega]
      · rw [if_neg d3, decide_eq_false fun m => d3 m.2.1.1]
    · rw [if_neg d2, decide_eq_false fun m => by have := m.1.2; omega]
  · rw [if_neg d1, decide_eq_false fun m => d1 m.1.1]
end F15
namespace F50
theorem l0 {H : Heap} {a : Option Addr} {n k : Nat} {xs : List Int} {t : Int} (hs : Ints .i64 H a n k xs) (hn : n ≤ 140737488355328) : ∀ (rest : List Int) (j : Nat), xs.drop j = rest → j + rest.length = n → L0 a n k t (n : Int) (j : Int) H (.int .i64 (if ix rest t < 0 then -1 else j + ix rest t), H) := by
  intro rest
  induction rest with
  | nil =>
    intro j hd hj
    simp only [List.length_nil] at hj
    refine L0_step ?_
    rw [if_neg (by omega)]
    rfl
  | cons x rest ih =>
    intro j hd hj
    simp only [List.length_cons] at hj
    obtain ⟨b, o, rfl⟩ := hs.at (by omega)
    have z := ih (j + 1) (drop_next hd) (by omega)
    refine L0_step ?_
    rw [if_pos (by omega)]
    refine ⟨b, o, rfl, by omega, by omega, x, Ints.get hs (drop_get hd), ?_⟩
    by_cases e : t = x
    · have : ix (x :: rest) t = 0 := by unfold ix; rw [if_pos e]
      rw [if_pos e, this, if_neg (by omega), Int.add_zero]
    · have hl := ix_le rest t
      rw [if_neg e, i64 (by omega) (by omega)]
      have : (if ix (x :: rest) t < 0 then (-1 : Int) else j + ix (x :: rest) t) = if ix rest t < 0 then -1 else ((j + 1 : Nat) : Int) + ix rest t := by
        have e1 : ix (x :: rest) t = if ix rest t < 0 then -1 else ix rest t + 1 := by conv => lhs; unfold ix; rw [if_neg e]
        rw [e1]
        by_cases h : ix rest t < 0
        · rw [if_pos h, if_pos h, if_pos (by omega)]
        · rw [if_neg h, if_neg h, if_neg (by omega)]; omega
      rw [this]
      exact_mod_cast z
theorem ok {H : Heap} {a : Option Addr} {n k : Nat} {xs : List Int} (hs : Ints .i64 H a n k xs) (hn : n ≤ 140737488355328) (t : Int) : Cd 50 [.slice a n k, .int .i64 t] H = some (.int .i64 (ix xs t), H) := by
  have hl := hs.ln
  have := l0 (t := t) hs hn xs 0 rfl (by omega)
  have h2 := ix_le xs t
  have e : (if ix xs t < 0 then (-1 : Int) else ((0 : Nat) : Int) + ix xs t) = ix xs t := by split <;> omega
  rw [e] at this
  exact call this
end F50
/-- What a node does. -/
structure A7 where
  k : Int
  c : C5
  at_ : Int
  deriving DecidableEq
abbrev A7.cells (a : A7) : List Value := [.int .i64 a.k, .int .i64 a.c.f, .int .i64 a.c.s, .int .i64 a.c.c, .int .i64 a.c.o, .int .i64 a.c.p, .int .i64 a.at_]
abbrev A7.agg (a : A7) : Value := .agg #[.int .i64 a.k, .int .i64 a.c.f, .int .i64 a.c.s, .int .i64 a.c.c, .int .i64 a.c.o, .int .i64 a.c.p, .int .i64 a.at_]
abbrev a70 : A7 := ⟨0, c50, 0⟩
def plc (c : C5) : List Int → Int
  | [] => -1
  | w :: ws => if c.p = 64 ∨ c.p = w then 0 else if plc c ws < 0 then -1 else plc c ws + 1
theorem plc_64 {c : C5} (h : c.p = 64) (ws : List Int) : plc c ws = if ws = [] then -1 else 0 := by
  cases ws with
  | nil => rfl
  | cons w ws => unfold plc; rw [if_pos (.inl h), if_neg (by simp)]
theorem plc_ix {c : C5} (h : c.p ≠ 64) : ∀ (ws : List Int), plc c ws = ix ws c.p
  | [] => rfl
  | w :: ws => by
    unfold plc ix
    rw [plc_ix h ws]
    by_cases e : c.p = w
    · rw [if_pos (.inr e), if_pos e]
    · rw [if_neg (fun c => by rcases c with c | c; exact h c; exact e c), if_neg e]
theorem plc_le (c : C5) : ∀ (ws : List Int), -1 ≤ plc c ws ∧ plc c ws < ws.length
  | [] => by simp [plc]
  | w :: ws => by
    have := plc_le c ws
    unfold plc
    simp only [List.length_cons]
    split
    · omega
    · split <;> omega
def sendsP (c : C5) (free : Bool) : Prop := iand .i64 c.o 1 ≠ 0 ∧ (iand .i64 c.o 4 = 0 ∨ free = true)
instance (c : C5) (free : Bool) : Decidable (sendsP c free) := by unfold sendsP; infer_instance
def sendB (ws : List Int) (free : Bool) : List C5 → Option A7
  | [] => none
  | c :: l => if 0 ≤ plc c ws ∧ sendsP c free then some ⟨1, c, plc c ws⟩ else sendB ws free l
def lisB : List C5 → Option A7
  | [] => none
  | c :: l => if iand .i64 c.o 2 = 0 then lisB l else some ⟨2, c, 0⟩
def mayL (l : List C5) : List C5 := l.filter fun c => decide (mayC c)
def decA (ws : List Int) (free : Bool) (l : List C5) : A7 := (sendB ws free (mayL l)).getD ((lisB (mayL l)).getD a70)
theorem goes34 : fnGoes Try.prog 34 = true := by kernel_rfl
namespace F34
theorem ok (c : C5) (H : Heap) : ∃ H', Cd 34 [c.agg] H = some (.bool (!decide (mayC c)), H') ∧ Keep H.next H H' := by
  obtain ⟨H1, e1, n1, g1, k1⟩ := one H c.cells
  obtain ⟨H2, c2, k2⟩ := F17.ok c H1
  exact ⟨H2, call ⟨_, e1, _, _, _, _, _, rldAll g1, _, _, c2, rfl⟩, k1.trans (k2.weak (by omega))⟩
end F34
namespace F36
theorem ok (c : C5) (free : Bool) (H : Heap) : ∃ H', Cd 36 [c.agg, .bool free] H = some (.bool (decide (sendsP c free)), H') ∧ Keep H.next H H' := by
  obtain ⟨H1, e1, n1, g1, k1⟩ := one H c.cells
  refine ⟨H1, call ⟨_, e1, _, rldc' g1 3, ?_⟩, k1⟩
  by_cases h1 : iand .i64 c.o 1 = 0
  · rw [if_pos h1, decide_eq_false fun m : sendsP c free => m.1 h1]
  · rw [if_neg h1]
    refine ⟨_, rldc' g1 3, ?_⟩
    by_cases h4 : iand .i64 c.o 4 = 0
    · rw [if_pos h4, decide_eq_true (show sendsP c free from ⟨h1, .inl h4⟩)]
    · rw [if_neg h4]
      cases free
      · rw [decide_eq_false fun m : sendsP c false => by rcases m.2 with h | h; exact h4 h; cases h]
      · rw [decide_eq_true (show sendsP c true from ⟨h1, .inr rfl⟩)]
end F36
namespace F35
theorem ok {H : Heap} {a : Option Addr} {n k : Nat} {ws : List Int} (c : C5) (hs : Ints .i64 H a n k ws) (hn : n ≤ 140737488355328) : ∃ H', Cd 35 [c.agg, .slice a n k] H = some (.int .i64 (plc c ws), H') ∧ Keep H.next H H' := by
  have hl := hs.ln
  obtain ⟨H1, e1, n1, g1, k1⟩ := one H c.cells
  have s1 := hs.keep k1
  refine ⟨H1, call ⟨_, e1, _, rldc' g1 4, ?_⟩, k1⟩
  by_cases h64 : c.p = 64
  · rw [if_pos h64, plc_64 h64]
    refine L0_step ?_
    by_cases h0 : ws = []
    · subst h0
      rw [if_neg (by simp at hl ⊢; omega), if_pos rfl]
      refine ⟨_, rldc' g1 4, ?_⟩
      rw [if_pos h64]
    · have := List.length_pos_iff.2 h0
      rw [if_pos (by simp; omega), if_neg h0]
  · rw [if_neg h64, plc_ix h64]
    refine L0_step ?_
    rw [if_neg (by simp)]
    refine ⟨_, rldc' g1 4, ?_⟩
    rw [if_neg h64]
    exact ⟨_, rldc' g1 4, _, _, F50.ok s1 hn _, rfl⟩
end F35
namespace F33
theorem ok {H : Heap} {a : Option Addr} {n k : Nat} {l : List C5} (hs : Cells H a n k l) (hn : n ≤ 1000000000) : ∃ a' k' H', Cd 33 [.slice a n k] H = some (.slice a' n k', H') ∧ Own H.next H' 5 a' n k' (l.flatMap C5.cells) ∧ Keep H.next H H' := by
  by_cases h0 : a.isNone = true
  · have : a = none := by simpa using h0
    subst this
    obtain ⟨hl, ⟨_, rfl, rfl⟩ | ⟨h, _⟩ | ⟨b, o, h, _⟩⟩ := hs
    · exact ⟨none, 0, H, call ((if_pos h0).mpr rfl), ⟨hl, .inl ⟨rfl, rfl, rfl⟩⟩, Keep.refl _ _⟩
    · cases h
    · cases h
  · have e : Own H.next (H.push (.row [] true)) 5 (some ⟨H.next, 0, none⟩) 0 (UNK 5) [] := Own.new rfl
    have hk := Keep.push (H := H) (.row [] true) (Nat.le_refl H.next)
    obtain ⟨a', k', H', h1, h2, h3⟩ := Own.append (by_ := 40) e (hs.keep hk) (by decide) (by simp) (by omega) (by omega)
    simp only [Nat.zero_add, List.nil_append] at h1 h2
    refine ⟨a', k', H', call ?_, h2, hk.trans h3⟩
    rw [if_neg h0]
    exact ⟨_, rfl, _, _, _, _, h1, rfl⟩
end F33
/-- Where the first one is that may not be, or -1. -/
def bad1 : List C5 → Int
  | [] => -1
  | c :: l => if mayC c then (if bad1 l < 0 then -1 else bad1 l + 1) else 0
theorem bad1_le : ∀ l : List C5, -1 ≤ bad1 l ∧ bad1 l < l.length
  | [] => by simp [bad1]
  | c :: l => by
    have := bad1_le l
    unfold bad1
    simp only [List.length_cons]
    split
    · split <;> omega
    · omega
theorem bad1_neg : ∀ l : List C5, bad1 l < 0 → mayL l = l
  | [], _ => rfl
  | c :: l, h => by
    have hl := bad1_le l
    unfold bad1 at h
    by_cases e : mayC c
    · rw [if_pos e] at h
      by_cases e2 : bad1 l < 0
      · have := bad1_neg l e2
        unfold mayL at this ⊢
        rw [List.filter_cons_of_pos (by simpa using e), this]
      · rw [if_neg e2] at h; omega
    · rw [if_neg e] at h; omega
theorem bad1_pre : ∀ l : List C5, 0 ≤ bad1 l → mayL (l.take ((bad1 l).toNat + 1)) = l.take (bad1 l).toNat
  | [], h => by simp [bad1] at h
  | c :: l, h => by
    have hl := bad1_le l
    unfold bad1 at h ⊢
    by_cases e : mayC c
    · rw [if_pos e] at h ⊢
      by_cases e2 : bad1 l < 0
      · rw [if_pos e2] at h; omega
      · rw [if_neg e2] at h ⊢
        have := bad1_pre l (by omega)
        rw [show (bad1 l + 1).toNat = (bad1 l).toNat + 1 by omega, List.take_succ_cons, List.take_succ_cons]
        unfold mayL at this ⊢
        rw [List.filter_cons_of_pos (by simpa using e), this]
    · rw [if_neg e]
      simp [mayL, e]
namespace F49
theorem l0 {G : Heap} {a : Option Addr} {n k : Nat} {l : List C5} (hs : Cells G a n k l) (hn : n ≤ 1000000000) : ∀ (rest : List C5) (j : Nat) (H : Heap), l.drop j = rest → j + rest.length = n → Keep G.next G H → ∃ H', L0 a n k (.func (.func 34) #[] #[]) (n : Int) (j : Int) H (.int .i64 (if bad1 rest < 0 then -1 else j + bad1 rest), H') ∧ Keep G.next H H' := by
  intro rest
  induction rest with
  | nil =>
    intro j H hd hj hk
    simp only [List.length_nil] at hj
    refine ⟨H, L0_step ?_, Keep.refl _ _⟩
    rw [if_neg (by omega)]
    rfl
  | cons c rest ih =>
    intro j H hd hj hk
    simp only [List.length_cons] at hj
    obtain ⟨b, o, rfl⟩ := hs.at (by omega)
    have hx := drop_get hd
    have ra := (hs.keep hk).recs C5.z hx
    obtain ⟨H1, c1, k1⟩ := F34.ok c H
    have k1' := k1.weak hk.next
    have hbl := bad1_le rest
    by_cases e : mayC c
    · obtain ⟨H', z, k'⟩ := ih (j + 1) H1 (drop_next hd) (by omega) (hk.trans k1')
      refine ⟨H', L0_step ?_, k1'.trans k'⟩
      rw [if_pos (by omega)]
      refine ⟨b, o, rfl, by omega, by omega, _, _, _, _, _, ra, 34, #[], #[], rfl, goes34, _, H1, by simpa using c1, ?_⟩
      rw [if_neg (by simpa using e), i64 (by omega) (by omega)]
      have : (if bad1 (c :: rest) < 0 then (-1 : Int) else j + bad1 (c :: rest)) = if bad1 rest < 0 then -1 else ((j + 1 : Nat) : Int) + bad1 rest := by
        have e1 : bad1 (c :: rest) = if bad1 rest < 0 then -1 else bad1 rest + 1 := by conv => lhs; unfold bad1; rw [if_pos e]
        rw [e1]
        by_cases h : bad1 rest < 0
        · rw [if_pos h, if_pos h, if_pos (by omega)]
        · rw [if_neg h, if_neg h, if_neg (by omega)]; omega
      rw [this]
      exact_mod_cast z
    · refine ⟨H1, L0_step ?_, k1'⟩
      rw [if_pos (by omega)]
      refine ⟨b, o, rfl, by omega, by omega, _, _, _, _, _, ra, 34, #[], #[], rfl, goes34, _, H1, by simpa using c1, ?_⟩
      rw [if_pos (by simpa using e)]
      have e1 : bad1 (c :: rest) = 0 := by unfold bad1; rw [if_neg e]
      rw [e1, if_neg (by omega), Int.add_zero]
theorem ok {H : Heap} {a : Option Addr} {n k : Nat} {l : List C5} (hs : Cells H a n k l) (hn : n ≤ 1000000000) : ∃ H', Cd 49 [.slice a n k, .func (.func 34) #[] #[]] H = some (.int .i64 (bad1 l), H') ∧ Keep H.next H H' := by
  have hl := hs.cnt C5.z (by decide)
  obtain ⟨H', z, k'⟩ := l0 hs hn l 0 H rfl (by omega) (Keep.refl _ _)
  have h2 := bad1_le l
  have e : (if bad1 l < 0 then (-1 : Int) else ((0 : Nat) : Int) + bad1 l) = bad1 l := by split <;> omega
  rw [e] at z
  exact ⟨H', call z, k'⟩
end F49
theorem mayL_append (a b : List C5) : mayL (a ++ b) = mayL a ++ mayL b := List.filter_append ..
theorem mayL_le (l : List C5) : (mayL l).length ≤ l.length := List.length_filter_le ..
theorem scratchC {H : Heap} {c : C5} : ∃ H2, stc (H.push (.row c50.cells true)) H.next 0 c.cells = some H2 ∧ H2.get H.next = .row c.cells true ∧ Keep H.next H H2 ∧ H2.next = H.next + 1 :=
  ⟨_, rstAll (vs := c50.cells) (by simp) rfl, by simp, (Keep.push _ (Nat.le_refl _)).trans (Keep.set _ (Nat.le_refl _)), rfl⟩
namespace F32
theorem l0 {base : Nat} {b o n k : Nat} {l : List C5} (hl : l.length = n) (hn : n ≤ 1000000000) : ∀ (rest : List C5) (j : Nat) (H : Heap), l.drop j = rest → (mayL (l.take j)).length ≤ j → j ≤ n → base ≤ H.next → Own base H 5 (some ⟨b, o, none⟩) n k ((mayL (l.take j) ++ l.drop (mayL (l.take j)).length).flatMap C5.cells) →
    ∃ H', L0 (some ⟨b, o, none⟩) n k (.func (.func 34) #[] #[]) ((mayL (l.take j)).length : Int) (j : Int) H (.slice (some ⟨b, o, none⟩) (mayL l).length k, H') ∧ Own base H' 5 (some ⟨b, o, none⟩) (mayL l).length k ((mayL l).flatMap C5.cells) ∧ Keep base H H' := by
  intro rest
  induction rest with
  | nil =>
    intro j H hd hi hj hb ho
    have e : j = n := by have := congrArg List.length hd; simp at this; omega
    subst e
    rw [List.take_of_length_le (by omega)] at hi ho ⊢
    obtain ⟨a', k', H', c1, c2, o2, g⟩ := ho.clearTailZ (by decide) c50.cells rfl (l := (mayL l).length) hi
    rw [List.flatMap_append, List.take_left' (by rw [flat_len C5.z])] at o2
    have hkU : k = UNK 5 := by
      obtain ⟨_, ⟨h, _⟩ | ⟨_, _, _, h, hk, _⟩⟩ := ho
      · cases h
      · exact hk
    refine ⟨H', L0_step ?_, o2, g.keep hb fun c _ hc => (ho.lt hc).1⟩
    rw [if_neg (by omega)]
    exact ⟨_, _, _, c1, H', c2, _, _, _, psl_front hi hkU, rfl⟩
  | cons c rest ih =>
    intro j H hd hi hj hb ho
    have hx := drop_get hd
    have hjl : j < n := by have := congrArg List.length hd; simp at this; omega
    have hlen : (mayL (l.take j) ++ l.drop (mayL (l.take j)).length).length = n := by simp; omega
    have hxx : (mayL (l.take j) ++ l.drop (mayL (l.take j)).length)[j]? = some c := by
      rw [List.getElem?_append_right hi, List.getElem?_drop, show (mayL (l.take j)).length + (j - (mayL (l.take j)).length) = j by omega]; exact hx
    have ra := ho.sl.recs C5.z hxx
    obtain ⟨H2, s1, s2, s3, s4⟩ := scratchC (H := H) (c := c)
    obtain ⟨H3, c3, k3⟩ := F34.ok c H2
    have g3 : H3.get H.next = .row c.cells true := by rw [k3.get _ (by omega)]; exact s2
    have o3 := (ho.keep s3).keep k3
    have n3 := k3.next
    have kb : Keep base H H3 := (s3.weak hb).trans (k3.weak (by omega))
    have et : l.take (j + 1) = l.take j ++ [c] := by rw [List.take_add_one, hx]; rfl
    by_cases e : mayC c
    · have em : mayL (l.take (j + 1)) = mayL (l.take j) ++ [c] := by rw [et, mayL_append]; simp [mayL, e]
      obtain ⟨H4, c4, o4, g4, n4⟩ := Own.putRec C5.z o3 (i := (mayL (l.take j)).length) (by omega) hlen c
      have es : (mayL (l.take j) ++ l.drop (mayL (l.take j)).length).set (mayL (l.take j)).length c = mayL (l.take (j + 1)) ++ l.drop (mayL (l.take (j + 1))).length := by
        rw [em, List.set_append_right _ _ (Nat.le_refl _), Nat.sub_self, List.length_append, List.length_singleton, List.append_assoc]
        congr 1
        have hlt : (mayL (l.take j)).length < l.length := by omega
        rw [List.drop_eq_getElem_cons hlt]; rfl
      rw [es] at o4
      have el : (mayL (l.take (j + 1))).length = (mayL (l.take j)).length + 1 := by rw [em]; simp
      obtain ⟨H', z, o5, k5⟩ := ih (j + 1) H4 (drop_next hd) (by omega) (by omega) (by have := kb.next; omega) o4
      refine ⟨H', L0_step ?_, o5, (kb.trans (g4.keep (by omega) fun c _ hc => (o3.lt hc).1)).trans k5⟩
      rw [if_pos (by omega)]
      refine ⟨b, o, rfl, by omega, by omega, _, _, _, _, _, ra, _, rfl, H2, s1, _, _, _, _, _, rldAll s2, 34, #[], #[], rfl, goes34, _, H3, by simpa using c3, ?_⟩
      rw [if_neg (by simpa using e)]
      refine ⟨_, _, _, _, _, rldAll g3, by omega, by omega, H4, c4, ?_⟩
      rw [i64 (by omega) (by omega), i64 (by omega) (by omega)]
      rw [el] at z
      exact_mod_cast z
    · have em : mayL (l.take (j + 1)) = mayL (l.take j) := by rw [et, mayL_append]; simp [mayL, e]
      rw [← em] at o3 hi
      obtain ⟨H', z, o5, k5⟩ := ih (j + 1) H3 (drop_next hd) (by omega) (by omega) (by have := kb.next; omega) o3
      refine ⟨H', L0_step ?_, o5, kb.trans k5⟩
      rw [if_pos (by omega)]
      refine ⟨b, o, rfl, by omega, by omega, _, _, _, _, _, ra, _, rfl, H2, s1, _, _, _, _, _, rldAll s2, 34, #[], #[], rfl, goes34, _, H3, by simpa using c3, ?_⟩
      rw [if_pos (by simpa using e), i64 (by omega) (by omega)]
      rw [em] at z
      exact_mod_cast z
theorem ok {base : Nat} {H : Heap} {a : Option Addr} {n k : Nat} {l : List C5} (ho : Own base H 5 a n k (l.flatMap C5.cells)) (hb : base ≤ H.next) (hn : n ≤ 1000000000) : ∃ a' k' H', Cd 32 [.slice a n k, .func (.func 34) #[] #[]] H = some (.slice a' (mayL l).length k', H') ∧ Own base H' 5 a' (mayL l).length k' ((mayL l).flatMap C5.cells) ∧ Keep base H H' := by
  have hl := ho.sl.cnt C5.z (by decide)
  obtain ⟨H1, c1, k1⟩ := F49.ok ho.sl hn
  have o1 := ho.keep k1
  have h2 := bad1_le l
  by_cases h : bad1 l < 0
  · have e := bad1_neg l h
    rw [e, hl]
    refine ⟨a, k, H1, call ⟨_, _, c1, ?_⟩, o1, k1.weak hb⟩
    rw [if_pos (by omega)]
  · obtain ⟨b, o, rfl⟩ := ho.sl.at (by omega)
    have e := bad1_pre l (by omega)
    have hlen : (mayL (l.take ((bad1 l).toNat + 1))).length = (bad1 l).toNat := by rw [e, List.length_take]; omega
    have eo : mayL (l.take ((bad1 l).toNat + 1)) ++ l.drop (mayL (l.take ((bad1 l).toNat + 1))).length = l := by rw [hlen, e, List.take_append_drop]
    obtain ⟨H', z, o2, k2⟩ := l0 (base := base) (b := b) (o := o) (k := k) hl hn _ ((bad1 l).toNat + 1) H1 rfl (by omega) (by omega) (by have := k1.next; omega) (by rw [eo]; exact o1)
    rw [hlen] at z
    refine ⟨some ⟨b, o, none⟩, k, H', call ⟨_, _, c1, ?_⟩, o2, (k1.weak hb).trans k2⟩
    rw [if_neg (by omega), i64 (by omega) (by omega)]
    have e1 : (((bad1 l).toNat : Nat) : Int) = bad1 l := by omega
    have e2 : (((bad1 l).toNat + 1 : Nat) : Int) = bad1 l + 1 := by omega
    rw [e1, e2] at z
    exact z
end F32
end Go.X
