/- What the small functions of the routes come to. -/
import Derived.Test.YtdnokmjobpbhhaaXzTcS
import Derived.Test.YtdnokmjobpbhhaaXzS
set_option linter.unusedVariables false
set_option linter.unusedSimpArgs false
set_option maxRecDepth 20000
namespace Go.X
open Go Go.RowKit Go.Proofs
noncomputable abbrev Cr := xC Try.prog good
theorem rldc' {H : Heap} {p : Nat} {vs : List Value} {own : Bool} (h : H.get p = .row vs own) (i : Nat) : ldc H p i = vs[i]? := by
  unfold ldc; rw [h]
theorem rstc' {H : Heap} {p : Nat} {vs : List Value} (h : H.get p = .row vs true) {i : Nat} (hi : i < vs.length) (v : Value) : stc H p i [v] = some (H.set p (.row (vs.set i v) true)) := by
  unfold stc; rw [h]; simp only [List.length_cons, List.length_nil]
  rw [if_pos (by omega)]; rfl
theorem rstAll {H : Heap} {p : Nat} {vs us : List Value} (h : H.get p = .row vs true) (hl : us.length = vs.length) : stc H p 0 us = some (H.set p (.row us true)) := by
  unfold stc; rw [h]
  simp only
  rw [if_pos (by omega), setMany_eq us vs 0 (by omega)]
  simp [hl]
theorem rldAll {H : Heap} {p : Nat} {vs : List Value} {own : Bool} (h : H.get p = .row vs own) : ldAll H p 0 vs := by
  have key : ∀ (us : List Value) (o : Nat), vs.drop o = us → ldAll H p o us := by
    intro us
    induction us with
    | nil => exact fun _ _ => trivial
    | cons u us ih => exact fun o ho => ⟨by rw [rldc' h]; exact drop_get ho, ih (o + 1) (drop_next ho)⟩
  exact key vs 0 rfl
theorem chgSet' {H : Heap} {p : Nat} (o : AObj) : Chg (fun b => b = p) H (H.set p o) := Chg.set (S := fun b => b = p) _ rfl
theorem OwnI.putc' {K : IntKind} {base : Nat} {H : Heap} {n k b o : Nat} {xs : List Int} (h : OwnI K base H (some ⟨b, o, none⟩) n k xs) {i : Nat} (hi : i < n) (v : Int) :
    ∃ H', stc H b (o + Int.toNat (i : Int) * 1) [.int K v] = some H' ∧ OwnI K base H' (some ⟨b, o, none⟩) n k (xs.set i v) ∧ Keep base H H' ∧ H'.next = H.next := by
  obtain ⟨H', c, o2, g, e⟩ := OwnI.put h hi v
  exact ⟨H', c, o2, g, e⟩
theorem getD_some {xs : List Int} {j : Nat} (h : j < xs.length) : xs[j]? = some (xs.getD j 0) := by simp [List.getD, List.getElem?_eq_getElem h]
def nodeP (x : Int) : Prop := 0 ≤ x ∧ x ≤ 15
instance (x : Int) : Decidable (nodeP x) := by unfold nodeP; infer_instance
def pathP (xs : List Int) : Prop := (∀ x ∈ xs, nodeP x) ∧ xs.Nodup ∧ xs.length ≤ 16
instance (xs : List Int) : Decidable (pathP xs) := by unfold pathP; infer_instance
namespace F62
theorem ok (x a b : Int) (H : Heap) : Cr 62 [.int .i64 x, .int .i64 a, .int .i64 b] H = some (.bool (decide (a ≤ x ∧ x ≤ b)), H) := by
  refine call ?_
  by_cases h : x ≥ a
  · rw [if_pos h, show decide (x ≤ b) = decide (a ≤ x ∧ x ≤ b) by simp; omega]
  · rw [if_neg h, decide_eq_false (by omega)]
end F62
namespace F61
theorem ok (x : Int) (H : Heap) : Cr 61 [.int .i64 x] H = some (.bool (decide (nodeP x)), H) := call ⟨_, _, F62.ok _ _ _ _, rfl⟩
end F61
namespace F57
theorem ok (x : Int) (H : Heap) : Cr 57 [.int .i64 x] H = some (.bool (decide (nodeP x)), H) := by
  refine call ?_
  by_cases h : x ≥ 0
  · rw [if_pos h, show decide (x < 16) = decide (nodeP x) from decide_eq_decide.2 ⟨fun h' => ⟨by omega, by omega⟩, fun h' => by have := h'.2; omega⟩]
  · rw [if_neg h, decide_eq_false (by unfold nodeP; omega)]
end F57
/-- Where the first one is, or -1. -/
def ix : List Int → Int → Int
  | [], _ => -1
  | x :: xs, t => if t = x then 0 else if ix xs t < 0 then -1 else ix xs t + 1
theorem ix_le : ∀ (xs : List Int) (t : Int), -1 ≤ ix xs t ∧ ix xs t < xs.length
  | [], t => by simp [ix]
  | x :: xs, t => by
    have := ix_le xs t
    unfold ix
    simp only [List.length_cons]
    split
    · omega
    · split <;> omega
theorem ix_get : ∀ (xs : List Int) (t : Int), 0 ≤ ix xs t → xs[(ix xs t).toNat]? = some t
  | [], t, h => by simp [ix] at h
  | x :: xs, t, h => by
    unfold ix at h ⊢
    by_cases e : t = x
    · rw [if_pos e]; simp [e]
    · rw [if_neg e] at h ⊢
      by_cases e2 : ix xs t < 0
      · rw [if_pos e2] at h; omega
      · rw [if_neg e2, show (ix xs t + 1).toNat = (ix xs t).toNat + 1 by omega]
        have := ix_get xs t (by omega)
        simpa using this
theorem ix_mem : ∀ (xs : List Int) (t : Int), 0 ≤ ix xs t ↔ t ∈ xs
  | [], t => by simp [ix]
  | x :: xs, t => by
    have h := ix_mem xs t
    have hl := ix_le xs t
    unfold ix
    by_cases e : t = x
    · rw [if_pos e]; simp [e]
    · rw [if_neg e, List.mem_cons, or_iff_right e, ← h]
      by_cases e2 : ix xs t < 0
      · rw [if_pos e2]; omega
      · rw [if_neg e2]; omega
theorem ix_nodup : ∀ (xs : List Int) (i : Nat) (t : Int), xs.Nodup → xs[i]? = some t → ix xs t = i
  | x :: xs, 0, t, hn, h => by
    have : x = t := by simpa using h
    unfold ix; rw [if_pos this.symm]; rfl
  | x :: xs, i + 1, t, hn, h => by
    have h' : xs[i]? = some t := by simpa using h
    have hn := List.nodup_cons.1 hn
    have ih := ix_nodup xs i t hn.2 h'
    unfold ix
    rw [if_neg (fun (e : t = x) => hn.1 (by rw [← e]; exact List.mem_of_getElem? h')), ih, if_neg (by omega)]
    omega
namespace F60
theorem l0 {H : Heap} {a : Option Addr} {n k : Nat} {xs : List Int} {t : Int} (hs : Ints .i64 H a n k xs) (hn : n ≤ 140737488355328) : ∀ (rest : List Int) (j : Nat), xs.drop j = rest → j + rest.length = n → L0 a n k t (n : Int) (j : Int) H (.int .i64 (if ix rest t < 0 then -1 else j + ix rest t), H) := by
  intro rest
  induction rest with
  | nil =>
    intro j hd hj
    simp only [List.length_nil] at hj
    refine L0_step ?_
    rw [if_neg (by omega)]
    rfl
  | cons x rest ih =>
    intro j hd hj
    simp only [List.length_cons] at hj
    obtain ⟨b, o, rfl⟩ := hs.at (by omega)
    have z := ih (j + 1) (drop_next hd) (by omega)
    refine L0_step ?_
    rw [if_pos (by omega)]
    refine ⟨b, o, rfl, by omega, by omega, x, Ints.get hs (drop_get hd), ?_⟩
    by_cases e : t = x
    · have : ix (x :: rest) t = 0 := by unfold ix; rw [if_pos e]
      rw [if_pos e, this, if_neg (by omega), Int.add_zero]
    · have hl := ix_le rest t
      rw [if_neg e, i64 (by omega) (by omega)]
      have : (if ix (x :: rest) t < 0 then (-1 : Int) else j + ix (x :: rest) t) = if ix rest t < 0 then -1 else ((j + 1 : Nat) : Int) + ix rest t := by
        have e1 : ix (x :: rest) t = if ix rest t < 0 then -1 else ix rest t + 1 := by conv => lhs; unfold ix; rw [if_neg e]
        rw [e1]
        by_cases h : ix rest t < 0
        · rw [if_pos h, if_pos h, if_pos (by omega)]
        · rw [if_neg h, if_neg h, if_neg (by omega)]; omega
      rw [this]
      exact_mod_cast z
theorem ok {H : Heap} {a : Option Addr} {n k : Nat} {xs : List Int} (hs : Ints .i64 H a n k xs) (hn : n ≤ 140737488355328) (t : Int) : Cr 60 [.slice a n k, .int .i64 t] H = some (.int .i64 (ix xs t), H) := by
  have hl := hs.ln
  have := l0 (t := t) hs hn xs 0 rfl (by omega)
  have h2 := ix_le xs t
  have e : (if ix xs t < 0 then (-1 : Int) else ((0 : Nat) : Int) + ix xs t) = ix xs t := by split <;> omega
  rw [e] at this
  exact call this
end F60
namespace F59
theorem ok {H : Heap} {a : Option Addr} {n k : Nat} {xs : List Int} (hs : Ints .i64 H a n k xs) (hn : n ≤ 140737488355328) (t : Int) : Cr 59 [.slice a n k, .int .i64 t] H = some (.bool (decide (t ∈ xs)), H) := by
  refine call ⟨_, _, F60.ok hs hn t, ?_⟩
  rw [show decide (ix xs t ≥ 0) = decide (t ∈ xs) from decide_eq_decide.2 (ix_mem xs t)]
end F59
namespace F23
theorem l0 {H : Heap} {a : Option Addr} {n k : Nat} {xs : List Int} {t : Int} (hs : Ints .i64 H a n k xs) (hn : n ≤ 140737488355328) : ∀ (rest : List Int) (j : Nat), xs.drop j = rest → j + rest.length = n → L0 t a n k (n : Int) (j : Int) H (.int .i64 (if ix rest t < 0 then -1 else j + ix rest t), H) := by
  intro rest
  induction rest with
  | nil =>
    intro j hd hj
    simp only [List.length_nil] at hj
    refine L0_step ?_
    rw [if_neg (by omega)]
    rfl
  | cons x rest ih =>
    intro j hd hj
    simp only [List.length_cons] at hj
    obtain ⟨b, o, rfl⟩ := hs.at (by omega)
    have z := ih (j + 1) (drop_next hd) (by omega)
    refine L0_step ?_
    rw [if_pos (by omega)]
    refine ⟨b, o, rfl, by omega, by omega, x, Ints.get hs (drop_get hd), ?_⟩
    by_cases e : t = x
    · have : ix (x :: rest) t = 0 := by unfold ix; rw [if_pos e]
      rw [if_pos e.symm, this, if_neg (by omega), Int.add_zero]
    · have hl := ix_le rest t
      rw [if_neg (fun h => e h.symm), i64 (by omega) (by omega)]
      have : (if ix (x :: rest) t < 0 then (-1 : Int) else j + ix (x :: rest) t) = if ix rest t < 0 then -1 else ((j + 1 : Nat) : Int) + ix rest t := by
        have e1 : ix (x :: rest) t = if ix rest t < 0 then -1 else ix rest t + 1 := by conv => lhs; unfold ix; rw [if_neg e]
        rw [e1]
        by_cases h : ix rest t < 0
        · rw [if_pos h, if_pos h, if_pos (by omega)]
        · rw [if_neg h, if_neg h, if_neg (by omega)]; omega
      rw [this]
      exact_mod_cast z
theorem ok {H : Heap} {a : Option Addr} {n k : Nat} {xs : List Int} (hs : Ints .i64 H a n k xs) (hn : n ≤ 140737488355328) (t : Int) : Cr 23 [.slice a n k, .int .i64 t] H = some (.int .i64 (ix xs t), H) := by
  have hl := hs.ln
  have := l0 (t := t) hs hn xs 0 rfl (by omega)
  have h2 := ix_le xs t
  have e : (if ix xs t < 0 then (-1 : Int) else ((0 : Nat) : Int) + ix xs t) = ix xs t := by split <;> omega
  rw [e] at this
  exact call this
end F23
/-- A prefix that may be, and one more. -/
theorem nodup_take_succ {xs : List Int} {j : Nat} {x : Int} (h : xs[j]? = some x) : (xs.take (j + 1)).Nodup ↔ (xs.take j).Nodup ∧ x ∉ xs.take j := by
  rw [List.take_add_one, h, Option.toList_some, List.nodup_append]
  simp only [List.nodup_cons, List.not_mem_nil, not_false_eq_true, List.nodup_nil, and_self, true_and, List.mem_singleton, ne_eq, forall_eq]
  constructor
  · exact fun ⟨h1, h2⟩ => ⟨h1, fun hm => h2 x hm rfl⟩
  · exact fun ⟨h1, h2⟩ => ⟨h1, fun y hy e => h2 (e ▸ hy)⟩
theorem not_path {xs : List Int} {j : Nat} {x : Int} (h : xs[j]? = some x) (hx : ¬nodeP x ∨ x ∈ xs.take j) : ¬pathP xs := by
  rintro ⟨h1, h2, _⟩
  rcases hx with hx | hx
  · exact hx (h1 x (List.mem_of_getElem? h))
  · exact ((nodup_take_succ h).1 (h2.sublist (List.take_sublist _ _))).2 hx
namespace F54
theorem l0 {H : Heap} {a : Option Addr} {n k : Nat} {xs : List Int} (hs : Ints .i64 H a n k xs) (hn : n ≤ 140737488355328) : ∀ (d j : Nat), j + d = n → (∀ x ∈ xs.take j, nodeP x) → (xs.take j).Nodup → L0 a n k a n k (n : Int) (j : Int) H (.bool (decide (pathP xs)), H) := by
  have hl := hs.ln
  intro d
  induction d with
  | zero =>
    intro j hj h1 h2
    rw [List.take_of_length_le (by omega)] at h1 h2
    refine L0_step ?_
    rw [if_neg (by omega), show decide ((n : Int) ≤ 16) = decide (pathP xs) from decide_eq_decide.2 ⟨fun h => ⟨h1, h2, by omega⟩, fun h => by have := h.2.2; omega⟩]
  | succ d ih =>
    intro j hj h1 h2
    have hx := getD_some (xs := xs) (j := j) (by omega)
    obtain ⟨a', k', c1, s1⟩ := Ints.part hs none (some (j : Int)) 0 j (.inl ⟨rfl, rfl⟩) (.inr rfl) (Nat.zero_le _) (by omega)
    rw [Nat.sub_zero] at c1 s1
    rw [List.drop_zero] at s1
    obtain ⟨b, o, rfl⟩ := hs.at (by omega)
    refine L0_step ?_
    rw [if_pos (by omega)]
    refine ⟨b, o, rfl, by omega, by omega, _, Ints.get hs hx, _, _, F61.ok _ _, ?_⟩
    by_cases e1 : nodeP (xs.getD j 0)
    · rw [if_pos (by simpa using e1)]
      refine ⟨_, _, _, c1, _, _, F59.ok s1 (by omega) _, L1_step ?_⟩
      by_cases e2 : xs.getD j 0 ∈ xs.take j
      · rw [if_pos (by simpa using e2), decide_eq_false (not_path hx (.inr e2))]
      · rw [if_neg (by simpa using e2), i64 (by omega) (by omega)]
        exact_mod_cast ih (j + 1) (by omega) (fun x hx' => by
          rw [List.take_add_one, hx] at hx'
          rcases List.mem_append.1 hx' with hx' | hx'
          · exact h1 x hx'
          · simp only [Option.toList_some, List.mem_singleton] at hx'; subst hx'; exact e1) ((nodup_take_succ hx).2 ⟨h2, e2⟩)
    · rw [if_neg (by simpa using e1)]
      refine L1_step ?_
      rw [if_pos rfl, decide_eq_false (not_path hx (.inl e1))]
theorem ok {H : Heap} {a : Option Addr} {n k : Nat} {xs : List Int} (hs : Ints .i64 H a n k xs) (hn : n ≤ 140737488355328) : Cr 54 [.slice a n k] H = some (.bool (decide (pathP xs)), H) :=
  call (l0 hs hn n 0 (by omega) (by simp) (by simp))
end F54
namespace F22
theorem l0 {H : Heap} {a : Option Addr} {n k : Nat} {xs : List Int} (hs : Ints .i64 H a n k xs) (hn : n ≤ 140737488355328) : ∀ (d j : Nat), j + d = n → (∀ x ∈ xs.take j, nodeP x) → (xs.take j).Nodup → L0 a n k a n k (n : Int) (j : Int) H (.bool (decide (pathP xs)), H) := by
  have hl := hs.ln
  intro d
  induction d with
  | zero =>
    intro j hj h1 h2
    rw [List.take_of_length_le (by omega)] at h1 h2
    refine L0_step ?_
    rw [if_neg (by omega), show decide ((n : Int) ≤ 16) = decide (pathP xs) from decide_eq_decide.2 ⟨fun h => ⟨h1, h2, by omega⟩, fun h => by have := h.2.2; omega⟩]
  | succ d ih =>
    intro j hj h1 h2
    have hx := getD_some (xs := xs) (j := j) (by omega)
    obtain ⟨a', k', c1, s1⟩ := Ints.part hs none (some (j : Int)) 0 j (.inl ⟨rfl, rfl⟩) (.inr rfl) (Nat.zero_le _) (by omega)
    rw [Nat.sub_zero] at c1 s1
    rw [List.drop_zero] at s1
    obtain ⟨b, o, rfl⟩ := hs.at (by omega)
    refine L0_step ?_
    rw [if_pos (by omega)]
    refine ⟨b, o, rfl, by omega, by omega, _, Ints.get hs hx, _, _, F57.ok _ _, ?_⟩
    by_cases e1 : nodeP (xs.getD j 0)
    · rw [if_pos (by simpa using e1)]
      refine ⟨_, _, _, c1, _, _, F23.ok s1 (by omega) _, L1_step ?_⟩
      by_cases e2 : xs.getD j 0 ∈ xs.take j
      · rw [if_pos (by simpa using (ix_mem _ _).2 e2), decide_eq_false (not_path hx (.inr e2))]
      · rw [if_neg (by rw [decide_eq_true_eq]; exact fun h => e2 ((ix_mem _ _).1 h)), i64 (by omega) (by omega)]
        exact_mod_cast ih (j + 1) (by omega) (fun x hx' => by
          rw [List.take_add_one, hx] at hx'
          rcases List.mem_append.1 hx' with hx' | hx'
          · exact h1 x hx'
          · simp only [Option.toList_some, List.mem_singleton] at hx'; subst hx'; exact e1) ((nodup_take_succ hx).2 ⟨h2, e2⟩)
    · rw [if_neg (by simpa using e1)]
      refine L1_step ?_
      rw [if_pos rfl, decide_eq_false (not_path hx (.inl e1))]
theorem ok {H : Heap} {a : Option Addr} {n k : Nat} {xs : List Int} (hs : Ints .i64 H a n k xs) (hn : n ≤ 140737488355328) : Cr 22 [.slice a n k] H = some (.bool (decide (pathP xs)), H) :=
  call (l0 hs hn n 0 (by omega) (by simp) (by simp))
end F22
namespace F55
theorem ok {H : Heap} {a : Option Addr} {n k : Nat} {xs : List Int} (hs : Ints .i64 H a n k xs) (hn : n ≤ 17592186044416) : ∃ a' k' H', Cr 55 [.slice a n k] H = some (.slice a' n k', H') ∧ OwnI .i64 H.next H' a' n k' xs ∧ Keep H.next H H' := by
  by_cases h0 : a.isNone = true
  · have : a = none := by simpa using h0
    subst this
    obtain ⟨hl, ⟨_, rfl, rfl⟩ | ⟨h, _⟩ | ⟨b, o, h, _⟩⟩ := hs
    · exact ⟨none, 0, H, call ((if_pos h0).mpr rfl), ⟨hl, .inl ⟨rfl, rfl, rfl⟩⟩, Keep.refl _ _⟩
    · cases h
    · cases h
  · have e := OwnI.new (K := .i64) H []
    have hk := Keep.push (H := H) (.row [] true) (Nat.le_refl H.next)
    obtain ⟨a', k', H', h1, h2, h3⟩ := OwnI.app 8 e (hs.keep hk) (by simp) (by simp; omega) (by simp; omega)
    simp only [List.length_nil, Nat.zero_add, List.nil_append] at h1 h2
    refine ⟨a', k', H', call ?_, h2, hk.trans h3⟩
    rw [if_neg h0]
    exact ⟨_, rfl, _, _, _, _, h1, rfl⟩
end F55
namespace F78
theorem ok {H : Heap} {a : Option Addr} {n k : Nat} {xs : List Int} (hs : Ints .u8 H a n k xs) (hn : n ≤ 140737488355328) : ∃ a' k' H', Cr 78 [.slice a n k] H = some (.slice a' n k', H') ∧ OwnI .u8 H.next H' a' n k' xs ∧ Keep H.next H H' := by
  by_cases h0 : a.isNone = true
  · have : a = none := by simpa using h0
    subst this
    obtain ⟨hl, ⟨_, rfl, rfl⟩ | ⟨h, _⟩ | ⟨b, o, h, _⟩⟩ := hs
    · exact ⟨none, 0, H, call ((if_pos h0).mpr rfl), ⟨hl, .inl ⟨rfl, rfl, rfl⟩⟩, Keep.refl _ _⟩
    · cases h
    · cases h
  · have e := OwnI.new (K := .u8) H []
    have hk := Keep.push (H := H) (.row [] true) (Nat.le_refl H.next)
    obtain ⟨a', k', H', h1, h2, h3⟩ := OwnI.app 1 e (hs.keep hk) (by simp) (by simp; omega) (by simp; omega)
    simp only [List.length_nil, Nat.zero_add, List.nil_append] at h1 h2
    refine ⟨a', k', H', call ?_, h2, hk.trans h3⟩
    rw [if_neg h0]
    exact ⟨_, rfl, _, _, _, _, h1, rfl⟩
end F78
namespace F56
theorem l0 {base : Nat} {xs : List Int} {a : Option Addr} {n k : Nat} (hn : n ≤ 140737488355328) (hx : xs.length = n) : ∀ (d i : Nat) (H : Heap) (ys : List Int), n - 2 * i ≤ d → 2 * i ≤ n + 1 → OwnI .i64 base H a n k ys → ys.length = n → (∀ m, m < n → ys[m]? = if m < i ∨ n - i ≤ m then xs[n - 1 - m]? else xs[m]?) →
    ∃ H', L0 a n k (i : Int) ((n : Int) - 1 - (i : Int)) H (.tuple #[], H') ∧ OwnI .i64 base H' a n k xs.reverse ∧ Keep base H H' := by
  have fin : ∀ (i : Nat) (H : Heap) (ys : List Int), ¬2 * i + 1 < n → 2 * i ≤ n + 1 → OwnI .i64 base H a n k ys → ys.length = n → (∀ m, m < n → ys[m]? = if m < i ∨ n - i ≤ m then xs[n - 1 - m]? else xs[m]?) →
      ∃ H', L0 a n k (i : Int) ((n : Int) - 1 - (i : Int)) H (.tuple #[], H') ∧ OwnI .i64 base H' a n k xs.reverse ∧ Keep base H H' := by
    intro i H ys h hi ho hl hy
    refine ⟨H, L0_step ?_, ?_, Keep.refl _ _⟩
    · rw [if_neg (by omega)]
    · have : ys = xs.reverse := by
        apply List.ext_getElem?
        intro m
        by_cases hm : m < n
        · rw [hy m hm, List.getElem?_reverse (by omega), hx]
          by_cases hc : m < i ∨ n - i ≤ m
          · rw [if_pos hc]
          · rw [if_neg hc, show n - 1 - m = m by omega]
        · rw [List.getElem?_eq_none (by omega), List.getElem?_eq_none (by simp; omega)]
      rw [← this]; exact ho
  intro d
  induction d with
  | zero => exact fun i H ys hd hi ho hl hy => fin i H ys (by omega) hi ho hl hy
  | succ d ih =>
    intro i H ys hd hi ho hl hy
    by_cases h : 2 * i + 1 < n
    · obtain ⟨b, o, rfl⟩ := ho.sl.at (by omega)
      have e1 : (n : Int) - 1 - (i : Int) = ((n - 1 - i : Nat) : Int) := by omega
      have yi := getD_some (xs := ys) (j := i) (by omega)
      have yj := getD_some (xs := ys) (j := n - 1 - i) (by omega)
      obtain ⟨H1, c1, o1, k1, _⟩ := ho.putc' (i := i) (by omega) (ys.getD (n - 1 - i) 0)
      obtain ⟨H2, c2, o2, k2, _⟩ := o1.putc' (i := n - 1 - i) (by omega) (ys.getD i 0)
      obtain ⟨H', z, o3, k3⟩ := ih (i + 1) H2 _ (by omega) (by omega) o2 (by simp; omega) (fun m hm => by
        rw [List.getElem?_set, List.getElem?_set]
        simp only [List.length_set]
        by_cases m1 : n - 1 - i = m
        · rw [if_pos m1, if_pos (by omega), if_pos (by omega), ← yi, hy i (by omega), if_neg (by omega), show n - 1 - m = i by omega]
        · rw [if_neg m1]
          by_cases m2 : i = m
          · rw [if_pos m2, if_pos (by omega), if_pos (by omega), ← yj, hy _ (by omega), if_neg (by omega), show n - 1 - i = n - 1 - m by omega]
          · rw [if_neg m2, hy m hm]
            by_cases m3 : m < i ∨ n - i ≤ m
            · rw [if_pos m3, if_pos (by omega)]
            · rw [if_neg m3, if_neg (by omega)])
      refine ⟨H', L0_step ?_, o3, k1.trans (k2.trans k3)⟩
      rw [if_pos (by omega), e1]
      refine ⟨b, o, rfl, by omega, by omega, _, Ints.get ho.sl yj, by omega, by omega, _, Ints.get ho.sl yi, by omega, by omega, H1, c1, by omega, by omega, H2, c2, ?_⟩
      rw [i64 (by omega) (by omega), i64 (by omega) (by omega)]
      rw [show ((n - 1 - i : Nat) : Int) - 1 = (n : Int) - 1 - ((i + 1 : Nat) : Int) by omega]
      exact_mod_cast z
    · exact fin i H ys h hi ho hl hy
theorem ok {base : Nat} {H : Heap} {a : Option Addr} {n k : Nat} {xs : List Int} (ho : OwnI .i64 base H a n k xs) (hn : n ≤ 140737488355328) : ∃ H', Cr 56 [.slice a n k] H = some (.tuple #[], H') ∧ OwnI .i64 base H' a n k xs.reverse ∧ Keep base H H' := by
  have hl := ho.ln
  obtain ⟨H', z, o, kp⟩ := l0 hn hl n 0 H xs (by omega) (by omega) ho hl (fun m hm => by rw [if_neg (by omega)])
  refine ⟨H', call ?_, o, kp⟩
  rw [i64 (by omega) (by omega)]
  simpa using z
end F56
def backL (xs : List Int) : List Int := if pathP xs then xs.reverse else []
namespace F21
theorem ok {H : Heap} {a : Option Addr} {n k : Nat} {xs : List Int} (hs : Ints .i64 H a n k xs) (hn : n ≤ 140737488355328) : ∃ a' k' H', Cr 21 [.slice a n k] H = some (.slice a' (backL xs).length k', H') ∧ OwnI .i64 H.next H' a' (backL xs).length k' (backL xs) ∧ Keep H.next H H' := by
  have hl := hs.ln
  unfold backL
  by_cases h : pathP xs
  · have h16 := h.2.2
    obtain ⟨a1, k1, H1, c1, o1, g1⟩ := F55.ok hs (by omega)
    obtain ⟨H2, c2, o2, g2⟩ := F56.ok o1 (by omega)
    rw [if_pos h, List.length_reverse, hl]
    refine ⟨a1, k1, H2, call ⟨_, _, F54.ok hs hn, ?_⟩, o2, g1.trans g2⟩
    rw [if_pos (by simpa using h)]
    exact ⟨_, _, _, _, c1, _, c2, rfl⟩
  · rw [if_neg h]
    refine ⟨none, 0, H, call ⟨_, _, F54.ok hs hn, ?_⟩, OwnI.nil, Keep.refl _ _⟩
    rw [if_neg (by simpa using h)]
    rfl
end F21
end Go.X
