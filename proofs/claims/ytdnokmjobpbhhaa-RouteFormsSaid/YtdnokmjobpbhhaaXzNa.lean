/- What the small functions of the routes come to. -/
import Derived.Test.YtdnokmjobpbhhaaXzTcS
import Derived.Test.YtdnokmjobpbhhaaXzS
set_option linter.unusedVariables false
set_option linter.unusedSimpArgs false
set_option maxRecDepth 20000
namespace Go.X
open Go Go.RowKit Go.Proofs
noncomputable abbrev Cr := xC Try.prog good
theorem rldc' {H : Heap} {p : Nat} {vs : List Value} {own : Bool} (h : H.get p = .row vs own) (i : Nat) : ldc H p i = vs[i]? := by
  unfold ldc; rw [h]
theorem rstc' {H : Heap} {p : Nat} {vs : List Value} (h : H.get p = .row vs true) {i : Nat} (hi : i < vs.length) (v : Value) : stc H p i [v] = some (H.set p (.row (vs.set i v) true)) := by
  unfold stc; rw [h]; simp only [List.length_cons, List.length_nil]
  rw [if_pos (by omega)]; rfl
theorem rstAll {H : Heap} {p : Nat} {vs us : List Value} (h : H.get p = .row vs true) (hl : us.length = vs.length) : stc H p 0 us = some (H.set p (.row us true)) := by
  unfold stc; rw [h]
  simp only
  rw [if_pos (by omega), setMany_eq us vs 0 (by omega)]
  simp [hl]
theorem rldAll {H : Heap} {p : Nat} {vs : List Value} {own : Bool} (h : H.get p = .row vs own) : ldAll H p 0 vs := by
  have key : ∀ (us : List Value) (o : Nat), vs.drop o = us → ldAll H p o us := by
    intro us
    induction us with
    | nil => exact fun _ _ => trivial
    | cons u us ih => exact fun o ho => ⟨by rw [rldc' h]; exact drop_get ho, ih (o + 1) (drop_next ho)⟩
  exact key vs 0 rfl
theorem chgSet' {H : Heap} {p : Nat} (o : AObj) : Chg (fun b => b = p) H (H.set p o) := Chg.set (S := fun b => b = p) _ rfl
theorem OwnI.putc' {K : IntKind} {base : Nat} {H : Heap} {n k b o : Nat} {xs : List Int} (h : OwnI K base H (some ⟨b, o, none⟩) n k xs) {i : Nat} (hi : i < n) (v : Int) :
    ∃ H', stc H b (o + Int.toNat (i : Int) * 1) [.int K v] = some H' ∧ OwnI K base H' (some ⟨b, o, none⟩) n k (xs.set i v) ∧ Keep base H H' ∧ H'.next = H.next := by
  obtain ⟨H', c, o2, g, e⟩ := OwnI.put h hi v
  exact ⟨H', c, o2, g, e⟩
theorem getD_some {xs : List Int} {j : Nat} (h : j < xs.length) : xs[j]? = some (xs.getD j 0) := by simp [List.getD, List.getElem?_eq_getElem h]
def nodeP (x : Int) : Prop := 0 ≤ x ∧ x ≤ 15
instance (x : Int) : Decidable (nodeP x) := by unfold nodeP; infer_instance
def pathP (xs : List Int) : Prop := (∀ x ∈ xs, nodeP x) ∧ xs.Nodup ∧ xs.length ≤ 16
instance (xs : List Int) : Decidable (pathP xs) := by unfold pathP; infer_instance
namespace F62
theorem ok (x a b : Int) (H : Heap) : Cr 62 [.int .i64 x, .int .i64 a, .int .i64 b] H = some (.bool (decide (a ≤ x ∧ x ≤ b)), H) := by
  refine call ?_
  by_cases h : x ≥ a
  · rw [if_pos h, show decide (x ≤ b) = decide (a ≤ x ∧ x ≤ b) by simp; omega]
  · rw [if_neg h, decide_eq_false (by omega)]
end F62
namespace F61
theorem ok (x : Int) (H : Heap) : Cr 61 [.int .i64 x] H = some (.bool (decide (nodeP x)), H) := call ⟨_, _, F62.ok _ _ _ _, rfl⟩
end F61
namespace F57
theorem ok (x : Int) (H : Heap) : Cr 57 [.int .i64 x] H = some (.bool (decide (nodeP x)), H) := by
  refine call ?_
  by_cases h : x ≥ 0
  · rw [if_pos h, show decide (x < 16) = decide (nodeP x) from decide_eq_decide.2 ⟨fun h' => ⟨by omega, by omega⟩, fun h' => by have := h'.2; omega⟩]
  · rw [if_neg h, decide_eq_false (by unfold nodeP; omega)]
end F57
/-- Where the first one is, or -1. -/
def ix : List Int → Int → Int
  | [], _ => -1
  | x :: xs, t => if t = x then 0 else if ix xs t < 0 then -1 else ix xs t + 1
theorem ix_le : ∀ (xs : List Int) (t : Int), -1 ≤ ix xs t ∧ ix xs t < xs.length
  | [], t => by simp [ix]
  | x :: xs, t => by
    have := ix_le xs t
    unfold ix
    simp only [List.length_cons]
    split
    · omega
    · split <;> omega
theorem ix_get : ∀ (xs : List Int) (t : Int), 0 ≤ ix xs t → xs[(ix xs t).toNat]? = some t
  | [], t, h => by simp [ix] at h
  | x :: xs, t, h => by
    unfold ix at h ⊢
    by_cases e : t = x
    · rw [if_pos e]; simp [e]
    · rw [if_neg e] at h ⊢
      by_cases e2 : ix xs t < 0
      · rw [if_pos e2] at h; omega
      · rw [if_neg e2, show (ix xs t + 1).toNat = (ix xs t).toNat + 1 by omega]
        have := ix_get xs t (by omega)
        simpa using this
theorem ix_mem : ∀ (xs : List Int) (t : Int), 0 ≤ ix xs t ↔ t ∈ xs
  | [], t => by simp [ix]
  | x :: xs, t => by
    have h := ix_mem xs t
    have hl := ix_le xs t
    unfold ix
    by_cases e : t = x
    · rw [if_pos e]; simp [e]
    · rw [if_neg e, List.mem_cons, or_iff_right e, ← h]
      by_cases e2 : ix xs t < 0
      · rw [if_pos e2]; omega
      · rw [if_neg e2]; omega
theorem ix_nodup : ∀ (xs : List Int) (i : Nat) (t : Int), xs.Nodup → xs[i]? = some t → ix xs t = i
  | x :: xs, 0, t, hn, h => by
    have : x = t := by simpa using h
    unfold ix; rw [if_pos this.symm]; rfl
  | x :: xs, i + 1, t, hn, h => by
    have h' : xs[i]? = some t := by simpa using h
    have hn := List.nodup_cons.1 hn
    have ih := ix_nodup xs i t hn.2 h'
    unfold ix
    rw [if_neg (fun (e : t = x) => hn.1 (by rw [← e]; exact List.mem_of_getElem? h')), ih, if_neg (by omega)]
    omega
namespace F60
theorem l0 {H : Heap} {a : Option Addr} {n k : Nat} {xs : List Int} {t : Int} (hs : Ints .i64 H a n k xs) (hn : n ≤ 140737488355328) : ∀ (rest : List Int) (j : Nat), xs.drop j = rest → j + rest.length = n → L0 a n k t (n : Int) (j : Int) H (.int .i64 (if ix rest t < 0 then -1 else j + ix rest t), H) := by
  intro rest
  induction rest with
  | nil =>
    intro j hd hj
    simp only [List.length_nil] at hj
    refine L0_step ?_
    rw [if_neg (by omega)]
    rfl
  | cons x rest ih =>
    intro j hd hj
    simp only [List.length_cons] at hj
    obtain ⟨b, o, rfl⟩ := hs.at (by omega)
    have z := ih (j + 1) (drop_next hd) (by omega)
    refine L0_step ?_
    rw [if_pos (by omega)]
    refine ⟨b, o, rfl, by omega, by omega, x, Ints.get hs (drop_get hd), ?_⟩
    by_cases e : t = x
    · have : ix (x :: rest) t = 0 := by unfold ix; rw [if_pos e]
      rw [if_pos e, this, if_neg (by omega), Int.add_zero]
    · have hl := ix_le rest t
      rw [if_neg e, i64 (by omega) (by omega)]
      have : (if ix (x :: rest) t < 0 then (-1 : Int) else j + ix (x :: rest) t) = if ix rest t < 0 then -1 else ((j + 1 : Nat) : Int) + ix rest t := by
        have e1 : ix (x :: rest) t = if ix rest t < 0 then -1 else ix rest t + 1 := by conv => lhs; unfold ix; rw [if_neg e]
        rw [e1]
        by_cases h : ix rest t < 0
        · rw [if_pos h, if_pos h, if_pos (by omega)]
        · rw [if_neg h, if_neg h, if_neg (by omega)]; omega
      rw [this]
      exact_mod_cast z
theorem ok {H : Heap} {a : Option Addr} {n k : Nat} {xs : List Int} (hs : Ints .i64 H a n k xs) (hn : n ≤ 140737488355328) (t : Int) : Cr 60 [.slice a n k, .int .i64 t] H = some (.int .i64 (ix xs t), H) := by
  have hl := hs.ln
  have := l0 (t := t) hs hn xs 0 rfl (by omega)
  have h2 := ix_le xs t
  have e : (if ix xs t < 0 then (-1 : Int) else ((0 : Nat) : Int) + ix xs t) = ix xs t := by split <;> omega
  rw [e] at this
  exact call this
end F60
namespace F59
theorem ok {H : Heap} {a : Option Addr} {n k : Nat} {xs : List Int} (hs : Ints .i64 H a n k xs) (hn : n ≤ 140737488355328) (t : Int) : Cr 59 [.slice a n k, .int .i64 t] H = some (.bool (decide (t ∈ xs)), H) := by
  refine call ⟨_, _, F60.ok hs hn t, ?_⟩
  rw [show decide (ix xs t ≥ 0) = decide (t ∈ xs) from decide_eq_decide.2 (ix_mem xs t)]
end F59
namespace F23
theorem l0 {H : Heap} {a : Option Addr} {n k : Nat} {xs : List Int} {t : Int} (hs : Ints .i64 H a n k xs) (hn : n ≤ 140737488355328) : ∀ (rest : List Int) (j : Nat), xs.drop j = rest → j + rest.length = n → L0 t a n k (n : Int) (j : Int) H (.int .i64 (if ix rest t < 0 then -1 else j + ix rest t), H) := by
  intro rest
  induction rest with
  | nil =>
    intro j hd hj
    simp only [List.length_nil] at hj
    refine L0_step ?_
    rw [if_neg (by omega)]
    rfl
  | cons x rest ih =>
    intro j hd hj
    simp only [List.length_cons] at hj
    obtain ⟨b, o, rfl⟩ := hs.at (by omega)
    have z := ih (j + 1) (drop_next hd) (by omega)
    refine L0_step ?_
    rw [if_pos (by omega)]
    refine ⟨b, o, rfl, by omega, by omega, x, Ints.get hs (drop_get hd), ?_⟩
    by_cases e : t = x
    · have : ix (x :: rest) t = 0 := by unfold ix; rw [if_pos e]
      rw [if_pos e.symm, this, if_neg (by omega), Int.add_zero]
    · have hl := ix_le rest t
      rw [if_neg (fun h => e h.symm), i64 (by omega) (by omega)]
      have : (if ix (x :: rest) t < 0 then (-1 : Int) else j + ix (x :: rest) t) = if ix rest t < 0 then -1 else ((j + 1 : Nat) : Int) + ix rest t := by
        have e1 : ix (x :: rest) t = if ix rest t < 0 then -1 else ix rest t + 1 := by conv => lhs; unfold ix; rw [if_neg e]
        rw [e1]
        by_cases h : ix rest t < 0
        · rw [if_pos h, if_pos h, if_pos (by omega)]
        · rw [if_neg h, if_neg h, if_neg (by omega)]; omega
      rw [this]
      exact_mod_cast z
theorem ok {H : Heap} {a : Option Addr} {n k : Nat} {xs : List Int} (hs : Ints .i64 H a n k xs) (hn : n ≤ 140737488355328) (t : Int) : Cr 23 [.slice a n k, .int .i64 t] H = some (.int .i64 (ix xs t), H) := by
  have hl := hs.ln
  have := l0 (t := t) hs hn xs 0 rfl (by omega)
  have h2 := ix_le xs t
  have e : (if ix xs t < 0 then (-1 : Int) else ((0 : Nat) : Int) + ix xs t) = ix xs t := by split <;> omega
  rw [e] at this
  exact call this
end F23
/-- A prefix that may be, and one more. -/
theorem nodup_take_succ {xs : List Int} {j : Nat} {x : Int} (h : xs[j]? = some x) : (xs.take (j + 1)).Nodup ↔ (xs.take j).Nodup ∧ x ∉ xs.take j := by
  rw [List.take_add_one, h, Option.toList_some, List.nodup_append]
  simp only [List.nodup_cons, List.not_mem_nil, not_false_eq_true, List.nodup_nil, and_self, true_and, List.mem_singleton, ne_eq, forall_eq]
  constructor
  · exact fun ⟨h1, h2⟩ => ⟨h1, fun hm => h2 x hm rfl⟩
  · exact fun ⟨h1, h2⟩ => ⟨h1, fun y hy e => h2 (e ▸ hy)⟩
theorem not_path {xs : List Int} {j : Nat} {x : Int} (h : xs[j]? = some x) (hx : ¬nodeP x ∨ x ∈ xs.take j) : ¬pathP xs := by
  rintro ⟨h1, h2, _⟩
  rcases hx with hx | hx
  · exact hx (h1 x (List.mem_of_getElem? h))
  · exact ((nodup_take_succ h).1 (h2.sublist (List.take_sublist _ _))).2 hx
namespace F54
theorem l0 {H : Heap} {a : Option Addr} {n k : Nat} {xs : List Int} (hs : Ints .i64 H a n k xs) (hn : n ≤ 140737488355328) : ∀ (d j : Nat), j + d = n → (∀ x ∈ xs.take j, nodeP x) → (xs.take j).Nodup → L0 a n k a n k (n : Int) (j : Int) H (.bool (decide (pathP xs)), H) := by
  have hl := hs.ln
  intro d
  induction d with
  | zero =>
    intro j hj h1 h2
    rw [List.take_of_length_le (by omega)] at h1 h2
    refine L0_step ?_
    rw [if_neg (by omega), show decide ((n : Int) ≤ 16) = decide (pathP xs) from decide_eq_decide.2 ⟨fun h => ⟨h1, h2, by omega⟩, fun h => by have := h.2.2; omega⟩]
  | succ d ih =>
    intro j hj h1 h2
    have hx := getD_some (xs := xs) (j := j) (by omega)
    obtain ⟨a', k', c1, s1⟩ := Ints.part hs none (some (j : Int)) 0 j (.inl ⟨rfl, rfl⟩) (.inr rfl) (Nat.zero_le _) (by omega)
    rw [Nat.sub_zero] at c1 s1
    rw [List.drop_zero] at s1
    obtain ⟨b, o, rfl⟩ := hs.at (by omega)
    refine L0_step ?_
    rw [if_pos (by omega)]
    refine ⟨b, o, rfl, by omega, by omega, _, Ints.get hs hx, _, _, F61.ok _ _, ?_⟩
    by_cases e1 : nodeP (xs.getD j 0)
    · rw [if_pos (by simpa using e1)]
      refine ⟨_, _, _, c1, _, _, F59.ok s1 (by omega) _, L1_step ?_⟩
      by_cases e2 : xs.getD j 0 ∈ xs.take j
      · rw [if_pos (by simpa using e2), decide_eq_false (not_path hx (.inr e2))]
      · rw [if_neg (by simpa using e2), i64 (by omega) (by omega)]
        exact_mod_cast ih (j + 1) (by omega) (fun x hx' => by
          rw [List.take_add_one, hx] at hx'
          rcases List.mem_append.1 hx' with hx' | hx'
          · exact h1 x hx'
          · simp only [Option.toList_some, List.mem_singleton] at hx'; subst hx'; exact e1) ((nodup_take_succ hx).2 ⟨h2, e2⟩)
    · rw [if_neg (by simpa using e1)]
      refine L1_step ?_
      rw [if_pos rfl, decide_eq_false (not_path hx (.inl e1))]
theorem ok {H : Heap} {a : Option Addr} {n k : Nat} {xs : List Int} (hs : Ints .i64 H a n k xs) (hn : n ≤ 140737488355328) : Cr 54 [.slice a n k] H = some (.bool (decide (pathP xs)), H) :=
  call (l0 hs hn n 0 (by omega) (by simp) (by simp))
end F54
namespace F22
theorem l0 {H : Heap} {a : Option Addr} {n k : Nat} {xs : List Int} (hs : Ints .i64 H a n k xs) (hn : n ≤ 140737488355328) : ∀ (d j : Nat), j + d = n → (∀ x ∈ xs.take j, nodeP x) → (xs.take j).Nodup → L0 a n k a n k (n : Int) (j : Int) H (.bool (decide (pathP xs)), H) := by
  have hl := hs.ln
  intro d
  induction d with
  | zero =>
    intro j hj h1 h2
    rw [List.take_of_length_le (by omega)] at h1 h2
    refine L0_step ?_
    rw [if_neg (by omega), show decide ((n : Int) ≤ 16) = decide (pathP xs) from decide_eq_decide.2 ⟨fun h => ⟨h1, h2, by omega⟩, fun h => by have := h.2.2; omega⟩]
  | succ d ih =>
    intro j hj h1 h2
    have hx := getD_some (xs := xs) (j := j) (by omega)
    obtain ⟨a', k', c1, s1⟩ := Ints.part hs none (some (j : Int)) 0 j (.inl ⟨rfl, rfl⟩) (.inr rfl) (Nat.zero_le _) (by omega)
    rw [Nat.sub_zero] at c1 s1
    rw [List.drop_zero] at s1
    obtain ⟨b, o, rfl⟩ := hs.at (by omega)
    refine L0_step ?_
    rw [if_pos (by omega)]
    refine ⟨b, o, rfl, by omega, by omega, _, Ints.get hs hx, _, _, F57.ok _ _, ?_⟩
    by_cases e1 : nodeP (xs.getD j 0)
    · rw [if_pos (by simpa using e1)]
      refine ⟨_, _, _, c1, _, _, F23.ok s1 (by omega) _, L1_step ?_⟩
      by_cases e2 : xs.getD j 0 ∈ xs.take j
      · rw [if_pos (by simpa using (ix_mem _ _).2 e2), decide_eq_false (not_path hx (.inr e2))]
      · rw [if_neg (by rw [decide_eq_true_eq]; exact fun h => e2 ((ix_mem _ _).1 h)), i64 (by omega) (by omega)]
        exact_mod_cast ih (j + 1) (by omega) (fun x hx' => by
          rw [List.take_add_one, hx] at hx'
          rcases List.mem_append.1 hx' with hx' | hx'
          · exact h1 x hx'
          · simp only [Option.toList_some, List.mem_singleton] at hx'; subst hx'; exact e1) ((nodup_take_succ hx).2 ⟨h2, e2⟩)
    · rw [if_neg (by simpa using e1)]
      refine L1_step ?_
      rw [if_pos rfl, decide_eq_false (not_path hx (.inl e1))]
theorem ok {H : Heap} {a : Option Addr} {n k : Nat} {xs : List Int} (hs : Ints .i64 H a n k xs) (hn : n ≤ 140737488355328) : Cr 22 [.slice a n k] H = some (.bool (decide (pathP xs)), H) :=
  call (l0 hs hn n 0 (by omega) (by simp) (by simp))
end F22
namespace F55
theorem ok {H : Heap} {a : Option Addr} {n k : Nat} {xs : List Int} (hs : Ints .i64 H a n k xs) (hn : n ≤ 17592186044416) : ∃ a' k' H', Cr 55 [.slice a n k] H = some (.slice a' n k', H') ∧ OwnI .i64 H.next H' a' n k' xs ∧ Keep H.next H H' := by
  by_cases h0 : a.isNone = true
  · have : a = none := by simpa using h0
    subst this
    obtain ⟨hl, ⟨_, rfl, rfl⟩ | ⟨h, _⟩ | ⟨b, o, h, _⟩⟩ := hs
    · exact ⟨none, 0, H, call ((if_pos h0).mpr rfl), ⟨hl, .inl ⟨rfl, rfl, rfl⟩⟩, Keep.refl _ _⟩
    · cases h
    · cases h
  · have e := OwnI.new (K := .i64) H []
    have hk := Keep.push (H := H) (.row [] true) (Nat.le_refl H.next)
    obtain ⟨a', k', H', h1, h2, h3⟩ := OwnI.app 8 e (hs.keep hk) (by simp) (by simp; omega) (by simp; omega)
    simp only [List.length_nil, Nat.zero_add, List.nil_append] at h1 h2
    refine ⟨a', k', H', call ?_, h2, hk.trans h3⟩
    rw [if_neg h0]
    exact ⟨_, rfl, _, _, _, _, h1, rfl⟩
end F55
namespace F78
theorem ok {H : Heap} {a : Option Addr} {n k : Nat} {xs : List Int} (hs : Ints .u8 H a n k xs) (hn : n ≤ 140737488355328) : ∃ a' k' H', Cr 78 [.slice a n k] H = some (.slice a' n k', H') ∧ OwnI .u8 H.next H' a' n k' xs ∧ Keep H.next H H' := by
  by_cases h0 : a.isNone = true
  · have : a = none := by simpa using h0
    subst this
    obtain ⟨hl, ⟨_, rfl, rfl⟩ | ⟨h, _⟩ | ⟨b, o, h, _⟩⟩ := hs
    · exact ⟨none, 0, H, call ((if_pos h0).mpr rfl), ⟨hl, .inl ⟨rfl, rfl, rfl⟩⟩, Keep.refl _ _⟩
    · cases h
    · cases h
  · have e := OwnI.new (K := .u8) H []
    have hk := Keep.push (H := H) (.row [] true) (Nat.le_refl H.next)
    obtain ⟨a', k', H', h1, h2, h3⟩ := OwnI.app 1 e (hs.keep hk) (by simp) (by simp; omega) (by simp; omega)
    simp only [List.length_nil, Nat.zero_add, List.nil_append] at h1 h2
    refine ⟨a', k', H', call ?_, h2, hk.trans h3⟩
    rw [if_neg h0]
    exact ⟨_, rfl, _, _, _, _, h1, rfl⟩
end F78
namespace F56
theorem l0 {base : Nat} {xs : List Int} {a : Option Addr} {n k : Nat} (hn : n ≤ 140737488355328) (hx : xs.length = n) : ∀ (d i : Nat) (H : Heap) (ys : List Int), n - 2 * i ≤ d → 2 * i ≤ n + 1 → OwnI .i64 base H a n k ys → ys.length = n → (∀ m, m < n → ys[m]? = if m < i ∨ n - i ≤ m then xs[n - 1 - m]? else xs[m]?) →
    ∃ H', L0 a n k (i : Int) ((n : Int) - 1 - (i : Int)) H (.tuple #[], H') ∧ OwnI .i64 base H' a n k xs.reverse ∧ Keep base H H' := by
  have fin : ∀ (i : Nat) (H : Heap) (ys : List Int), ¬2 * i + 1 < n → 2 * i ≤ n + 1 → OwnI .i64 base H a n k ys → ys.length = n → (∀ m, m < n → ys[m]? = if m < i ∨ n - i ≤ m then xs[n - 1 - m]? else xs[m]?) →
      ∃ H', L0 a n k (i : Int) ((n : Int) - 1 - (i : Int)) H (.tuple #[], H') ∧ OwnI .i64 base H' a n k xs.reverse ∧ Keep base H H' := by
    intro i H ys h hi ho hl hy
    refine ⟨H, L0_step ?_, ?_, Keep.refl _ _⟩
    · rw [if_neg (by omega)]
    · have : ys = xs.reverse := by
        apply List.ext_getElem?
        intro m
        by_cases hm : m < n
        · rw [hy m hm, List.getElem?_reverse (by omega), hx]
          by_cases hc : m < i ∨ n - i ≤ m
          · rw [if_pos hc]
          · rw [if_neg hc, show n - 1 - m = m by omega]
        · rw [List.getElem?_eq_none (by omega), List.getElem?_eq_none (by simp; omega)]
      rw [← this]; exact ho
  intro d
  induction d with
  | zero => exact fun i H ys hd hi ho hl hy => fin i H ys (by omega) hi ho hl hy
  | succ d ih =>
    intro i H ys hd hi ho hl hy
    by_cases h : 2 * i + 1 < n
    · obtain ⟨b, o, rfl⟩ := ho.sl.at (by omega)
      have e1 : (n : Int) - 1 - (i : Int) = ((n - 1 - i : Nat) : Int) := by omega
      have yi := getD_some (xs := ys) (j := i) (by omega)
      have yj := getD_some (xs := ys) (j := n - 1 - i) (by omega)
      obtain ⟨H1, c1, o1, k1, _⟩ := ho.putc' (i := i) (by omega) (ys.getD (n - 1 - i) 0)
      obtain ⟨H2, c2, o2, k2, _⟩ := o1.putc' (i := n - 1 - i) (by omega) (ys.getD i 0)
      obtain ⟨H', z, o3, k3⟩ := ih (i + 1) H2 _ (by omega) (by omega) o2 (by simp; omega) (fun m hm => by
        rw [List.getElem?_set, List.getElem?_set]
        simp only [List.length_set]
        by_cases m1 : n - 1 - i = m
        · rw [if_pos m1, if_pos (by omega), if_pos (by omega), ← yi, hy i (by omega), if_neg (by omega), show n - 1 - m = i by omega]
        · rw [if_neg m1]
          by_cases m2 : i = m
          · rw [if_pos m2, if_pos (by omega), if_pos (by omega), ← yj, hy _ (by omega), if_neg (by omega), show n - 1 - i = n - 1 - m by omega]
          · rw [if_neg m2, hy m hm]
            by_cases m3 : m < i ∨ n - i ≤ m
            · rw [if_pos m3, if_pos (by omega)]
            · rw [if_neg m3, if_neg (by omega)])
      refine ⟨H', L0_step ?_, o3, k1.trans (k2.trans k3)⟩
      rw [if_pos (by omega), e1]
      refine ⟨b, o, rfl, by omega, by omega, _, Ints.get ho.sl yj, by omega, by omega, _, Ints.get ho.sl yi, by omega, by omega, H1, c1, by omega, by omega, H2, c2, ?_⟩
      rw [i64 (by omega) (by omega), i64 (by omega) (by omega)]
      rw [show ((n - 1 - i : Nat) : Int) - 1 = (n : Int) - 1 - ((i + 1 : Nat) : Int) by omega]
      exact_mod_cast z
    · exact fin i H ys h hi ho hl hy
theorem ok {base : Nat} {H : Heap} {a : Option Addr} {n k : Nat} {xs : List Int} (ho : OwnI .i64 base H a n k xs) (hn : n ≤ 140737488355328) : ∃ H', Cr 56 [.slice a n k] H = some (.tuple #[], H') ∧ OwnI .i64 base H' a n k xs.reverse ∧ Keep base H H' := by
  have hl := ho.ln
  obtain ⟨H', z, o, kp⟩ := l0 hn hl n 0 H xs (by omega) (by omega) ho hl (fun m hm => by rw [if_neg (by omega)])
  refine ⟨H', call ?_, o, kp⟩
  rw [i64 (by omega) (by omega)]
  simpa using z
end F56
def backL (xs : List Int) : List Int := if pathP xs then xs.reverse else []
namespace F21
theorem ok {H : Heap} {a : Option Addr} {n k : Nat} {xs : List Int} (hs : Ints .i64 H a n k xs) (hn : n ≤ 140737488355328) : ∃ a' k' H', Cr 21 [.slice a n k] H = some (.slice a' (backL xs).length k', H') ∧ OwnI .i64 H.next H' a' (backL xs).length k' (backL xs) ∧ Keep H.next H H' := by
  have hl := hs.ln
  unfold backL
  by_cases h : pathP xs
  · have h16 := h.2.2
    obtain ⟨a1, k1, H1, c1, o1, g1⟩ := F55.ok hs (by omega)
    obtain ⟨H2, c2, o2, g2⟩ := F56.ok o1 (by omega)
    rw [if_pos h, List.length_reverse, hl]
    refine ⟨a1, k1, H2, call ⟨_, _, F54.ok hs hn, ?_⟩, o2, g1.trans g2⟩
    rw [if_pos (by simpa using h)]
    exact ⟨_, _, _, _, c1, _, c2, rfl⟩
  · rw [if_neg h]
    refine ⟨none, 0, H, call ⟨_, _, F54.ok hs hn, ?_⟩, OwnI.nil, Keep.refl _ _⟩
    rw [if_neg (by simpa using h)]
    rfl
end F21
/-- A packet's value. -/
structure PV where
  f : Int
  t : Int
  n : Int
  l : Int
  path : List Int
  data : List Int
  deriving DecidableEq
/-- A packet, in memory. -/
structure Pk where
  v : PV
  pa : Option Addr
  pk : Nat
  da : Option Addr
  dk : Nat
abbrev Pk.cells (p : Pk) : List Value := [.int .i64 p.v.f, .int .i64 p.v.t, .int .i64 p.v.n, .int .i64 p.v.l, .slice p.pa p.v.path.length p.pk, .slice p.da p.v.data.length p.dk]
abbrev Pk.agg (p : Pk) : Value := .agg #[.int .i64 p.v.f, .int .i64 p.v.t, .int .i64 p.v.n, .int .i64 p.v.l, .slice p.pa p.v.path.length p.pk, .slice p.da p.v.data.length p.dk]
structure PkOk (H : Heap) (p : Pk) : Prop where
  path : Ints .i64 H p.pa p.v.path.length p.pk p.v.path
  data : Ints .u8 H p.da p.v.data.length p.dk p.v.data
  ps : p.v.path.length ≤ 17592186044416
  ds : p.v.data.length ≤ 140737488355328
/-- .. of its own. -/
structure PkOwn (base : Nat) (H : Heap) (p : Pk) : Prop where
  path : OwnI .i64 base H p.pa p.v.path.length p.pk p.v.path
  data : OwnI .u8 base H p.da p.v.data.length p.dk p.v.data
  ps : p.v.path.length ≤ 17592186044416
  ds : p.v.data.length ≤ 140737488355328
  apart : ∀ b, In1 p.pa b → ¬In1 p.da b
theorem PkOk.keep {H H' : Heap} {p : Pk} (h : PkOk H p) (k : Keep H.next H H') : PkOk H' p := ⟨h.path.keep k, h.data.keep k, h.ps, h.ds⟩
theorem PkOwn.keep {base : Nat} {H H' : Heap} {p : Pk} (h : PkOwn base H p) (k : Keep H.next H H') : PkOwn base H' p := ⟨h.path.keep k, h.data.keep k, h.ps, h.ds, h.apart⟩
theorem PkOwn.ok {base : Nat} {H : Heap} {p : Pk} (h : PkOwn base H p) : PkOk H p := ⟨h.path.sl, h.data.sl, h.ps, h.ds⟩
theorem PkOwn.weak {base base' : Nat} {H : Heap} {p : Pk} (h : PkOwn base H p) (hb : base' ≤ base) : PkOwn base' H p := ⟨h.path.weak hb, h.data.weak hb, h.ps, h.ds, h.apart⟩
/-- A row below the base is set. -/
theorem PkOwn.set {base : Nat} {H : Heap} {p : Pk} (h : PkOwn base H p) {b : Nat} (hb : b < base) (o : AObj) : PkOwn base (H.set b o) p :=
  ⟨h.path.chg (chgSet' o) fun c hc e => by have := (h.path.lt hc).1; have e : c = b := e; omega, h.data.chg (chgSet' o) fun c hc e => by have := (h.data.lt hc).1; have e : c = b := e; omega, h.ps, h.ds, h.apart⟩
def pv0 : PV := ⟨0, 0, 0, 0, [], []⟩
def pk0 : Pk := ⟨pv0, none, 0, none, 0⟩
theorem pk0_own (base : Nat) (H : Heap) : PkOwn base H pk0 := ⟨OwnI.nil, OwnI.nil, by simp [pk0, pv0], by simp [pk0, pv0], fun b h => absurd h In1.none⟩
def mayP (v : PV) : Prop := nodeP v.f ∧ nodeP v.t ∧ v.f ≠ v.t ∧ (0 ≤ v.n ∧ v.n ≤ 70368744177663) ∧ (0 ≤ v.l ∧ v.l ≤ 15) ∧ pathP v.path ∧ (1 ≤ (v.data.length : Int) ∧ (v.data.length : Int) ≤ 24)
instance (v : PV) : Decidable (mayP v) := by unfold mayP; infer_instance
/-- Two new rows. -/
theorem two (H : Heap) (p z : List Value) : ∃ H1 H2, H1 = H.push (.row p true) ∧ H2 = H1.push (.row z true) ∧ H1.next = H.next + 1 ∧ H2.next = H.next + 2 ∧ H1.get H.next = .row p true ∧ H2.get H.next = .row p true ∧ H2.get H1.next = .row z true ∧ Keep H.next H H1 ∧ Keep H.next H H2 := by
  refine ⟨_, _, rfl, rfl, rfl, rfl, by simp, ?_, Heap.get_push_same _ _, Keep.push _ (Nat.le_refl _), (Keep.push _ (Nat.le_refl _)).trans (Keep.push _ (by simp))⟩
  rw [Heap.get_push_ne _ _ _ (by simp)]; simp
theorem one (H : Heap) (p : List Value) : ∃ H1, H1 = H.push (.row p true) ∧ H1.next = H.next + 1 ∧ H1.get H.next = .row p true ∧ Keep H.next H H1 :=
  ⟨_, rfl, rfl, by simp, Keep.push _ (Nat.le_refl _)⟩
namespace F28
theorem ok {H : Heap} {p : Pk} (h : PkOk H p) : ∃ H', Cr 28 [p.agg] H = some (.bool (decide (mayP p.v)), H') ∧ Keep H.next H H' := by
  obtain ⟨H1, e1, n1, g1, k1⟩ := one H p.cells
  have h1 := h.keep k1
  refine ⟨H1, call ⟨_, e1, _, rldc' g1 0, _, _, F61.ok _ _, ?_⟩, k1⟩
  by_cases c1 : nodeP p.v.f
  · rw [if_pos (by simpa using c1)]
    refine ⟨_, rldc' g1 1, _, _, F61.ok _ _, ?_⟩
    by_cases c2 : nodeP p.v.t
    · rw [if_pos (by simpa using c2)]
      refine ⟨_, rldc' g1 0, _, rldc' g1 1, ?_⟩
      by_cases c3 : p.v.f = p.v.t
      · rw [if_pos c3, decide_eq_false fun m => m.2.2.1 c3]
      · rw [if_neg c3]
        refine ⟨_, rldc' g1 2, _, _, F62.ok _ _ _ _, ?_⟩
        by_cases c4 : 0 ≤ p.v.n ∧ p.v.n ≤ 70368744177663
        · rw [if_pos (by simpa using c4)]
          refine ⟨_, rldc' g1 3, _, _, F62.ok _ _ _ _, ?_⟩
          by_cases c5 : 0 ≤ p.v.l ∧ p.v.l ≤ 15
          · rw [if_pos (by simpa using c5)]
            refine ⟨_, _, _, rldc' g1 4, _, _, F54.ok h1.path (by have := h.ps; omega), ?_⟩
            by_cases c6 : pathP p.v.path
            · rw [if_pos (by simpa using c6)]
              refine ⟨_, _, _, rldc' g1 5, _, _, F62.ok _ _ _ _, ?_⟩
              rw [show decide (mayP p.v) = decide (1 ≤ (p.v.data.length : Int) ∧ (p.v.data.length : Int) ≤ 24) from decide_eq_decide.2 ⟨fun m => m.2.2.2.2.2.2, fun m => ⟨c1, c2, c3, c4, c5, c6, m⟩⟩]
            · rw [if_neg (by simpa using c6), decide_eq_false fun m => c6 m.2.2.2.2.2.1]
          · rw [if_neg (by simpa using c5), decide_eq_false fun m => c5 m.2.2.2.2.1]
        · rw [if_neg (by simpa using c4), decide_eq_false fun m => c4 m.2.2.2.1]
    · rw [if_neg (by simpa using c2), decide_eq_false fun m => c2 m.2.1]
  · rw [if_neg (by simpa using c1), decide_eq_false fun m => c1 m.1]
end F28
namespace F76
theorem ok {H : Heap} {p : Pk} (h : PkOk H p) : ∃ q H', Cr 76 [p.agg] H = some (q.agg, H') ∧ q.v = p.v ∧ PkOwn H.next H' q ∧ Keep H.next H H' := by
  obtain ⟨H1, H2, e1, e2, n1, n2, g1, g2, g3, k1, k2⟩ := two H p.cells pk0.cells
  have h2 := h.keep k2
  obtain ⟨a5, k5, H3, c3, o3, p3⟩ := F55.ok h2.path h.ps
  obtain ⟨a8, k8, H4, c4, o4, p4⟩ := F78.ok ((h2.data).keep p3) h.ds
  have gp3 : H3.get H.next = .row p.cells true := by rw [p3.get _ (by omega)]; exact g2
  have hn3 := p3.next
  have gp4 : H4.get H.next = .row p.cells true := by rw [p4.get _ (by omega)]; exact gp3
  have gz4 : H4.get H1.next = .row pk0.cells true := by rw [p4.get _ (by omega), p3.get _ (by omega)]; exact g3
  have hn4 := p4.next
  generalize hq : (⟨p.v, a5, k5, a8, k8⟩ : Pk) = q
  have hqv : q.v = p.v := by rw [← hq]
  have o5 := o3.keep p4
  let X5 := H4.set H.next (.row [.int .i64 p.v.f, .int .i64 p.v.t, .int .i64 p.v.n, .int .i64 p.v.l, .slice a5 p.v.path.length k5, .slice p.da p.v.data.length p.dk] true)
  let X6 := X5.set H.next (.row [.int .i64 p.v.f, .int .i64 p.v.t, .int .i64 p.v.n, .int .i64 p.v.l, .slice a5 p.v.path.length k5, .slice a8 p.v.data.length k8] true)
  let X7 := X6.set H1.next (.row [.int .i64 p.v.f, .int .i64 p.v.t, .int .i64 p.v.n, .int .i64 p.v.l, .slice a5 p.v.path.length k5, .slice a8 p.v.data.length k8] true)
  have w5 : stc H4 H.next 4 [.slice a5 p.v.path.length k5] = some X5 := rstc' gp4 (i := 4) (by simp) _
  have w6 : stc X5 H.next 5 [.slice a8 p.v.data.length k8] = some X6 := rstc' (vs := [.int .i64 p.v.f, .int .i64 p.v.t, .int .i64 p.v.n, .int .i64 p.v.l, .slice a5 p.v.path.length k5, .slice p.da p.v.data.length p.dk]) (by simp [X5]) (i := 5) (by simp) _
  have g6 : X6.get H.next = .row [.int .i64 p.v.f, .int .i64 p.v.t, .int .i64 p.v.n, .int .i64 p.v.l, .slice a5 p.v.path.length k5, .slice a8 p.v.data.length k8] true := by simp [X6]
  have gz6 : X6.get H1.next = .row pk0.cells true := by
    show ((H4.set _ _).set _ _).get _ = _
    rw [Heap.get_set_ne _ _ _ _ (by omega), Heap.get_set_ne _ _ _ _ (by omega)]; exact gz4
  have w7 : stc X6 H1.next 0 [.int .i64 p.v.f, .int .i64 p.v.t, .int .i64 p.v.n, .int .i64 p.v.l, .slice a5 p.v.path.length k5, .slice a8 p.v.data.length k8] = some X7 := rstAll gz6 rfl
  have g7 : X7.get H1.next = .row [.int .i64 p.v.f, .int .i64 p.v.t, .int .i64 p.v.n, .int .i64 p.v.l, .slice a5 p.v.path.length k5, .slice a8 p.v.data.length k8] true := by simp [X7]
  have kk : Keep H.next H X7 := ((((k2.trans (p3.weak (by omega))).trans (p4.weak (by omega))).trans (Keep.set _ (Nat.le_refl _))).trans (Keep.set _ (Nat.le_refl _))).trans (Keep.set _ (by omega))
  have ow : PkOwn H2.next X7 q := by
    have h4 : PkOwn H2.next H4 q := by
      rw [← hq]
      exact ⟨o5, o4.weak (by omega), h.ps, h.ds, fun b h1 h2 => by have := (o3.lt h1).2; have := (o4.lt h2).1; omega⟩
    exact ((h4.set (by omega) _).set (by omega) _).set (by omega) _
  refine ⟨q, X7, ?_, hqv, ow.weak (by omega), kk⟩
  subst hq
  exact call ⟨_, e1, _, e2, _, _, _, rldc' g2 4, _, _, _, _, c3, _, _, _, rldc' g2 5, _, _, _, _, c4, _, w5, _, w6, rldc' gp3 5, _, _, _, _, _, _, _, _, _, _, rldAll g6, _, w7, _, _, _, _, _, _, _, _, _, _, rldAll g7, rfl⟩
end F76
/-- A hop further. -/
def stepV (v : PV) (me : Int) : PV × Int := if ¬(mayP v ∧ nodeP me) then (pv0, 1) else if v.l = 0 then (pv0, 11) else ({ v with l := v.l - 1 }, 0)
namespace F58
theorem ok {H : Heap} {p : Pk} (h : PkOk H p) (me : Int) : ∃ q H', Cr 58 [p.agg, .int .i64 me] H = some (.tuple #[q.agg, .int .i64 (stepV p.v me).2], H') ∧ q.v = (stepV p.v me).1 ∧ PkOwn H.next H' q ∧ Keep H.next H H' := by
  obtain ⟨H1, H2, e1, e2, n1, n2, g1, g2, g3, k1, k2⟩ := two H p.cells pk0.cells
  have h2 := h.keep k2
  obtain ⟨H3, c3, p3⟩ := F28.ok h2
  have h3 := h2.keep p3
  have hn3 := p3.next
  have gp3 : H3.get H.next = .row p.cells true := by rw [p3.get _ (by omega)]; exact g2
  have gz3 : H3.get H1.next = .row pk0.cells true := by rw [p3.get _ (by omega)]; exact g3
  have k3 : Keep H.next H H3 := k2.trans (p3.weak (by omega))
  -- an answer without a packet
  have zero : ∃ X, stc H3 H1.next 0 pk0.cells = some X ∧ ldAll X H1.next 0 pk0.cells ∧ Keep H.next H X :=
    ⟨_, rstAll gz3 rfl, rldAll (vs := pk0.cells) (own := true) (by simp), k3.trans (Keep.set _ (by omega))⟩
  obtain ⟨X, x1, x2, x3⟩ := zero
  have no : ∃ q H', L0 H.next 0 H1.next 0 true H3 (.tuple #[q.agg, .int .i64 1], H') ∧ q.v = pv0 ∧ PkOwn H.next H' q ∧ Keep H.next H H' := by
    refine ⟨pk0, X, L0_step ?_, rfl, pk0_own _ _, x3⟩
    rw [if_pos rfl]
    exact ⟨_, x1, _, _, _, _, _, _, _, _, _, _, x2, rfl⟩
  have go : ∀ r, (if mayP p.v then L0 H.next 0 H1.next 0 (!decide (nodeP me)) H3 r else L0 H.next 0 H1.next 0 true H3 r) → Cr 58 [p.agg, .int .i64 me] H = some r := by
    intro r hr
    refine call ⟨_, e1, _, e2, _, _, _, _, _, _, _, _, _, _, rldAll g2, _, _, c3, ?_⟩
    by_cases hm : mayP p.v
    · rw [if_pos hm] at hr
      rw [if_pos (by simpa using hm)]
      exact ⟨_, _, F61.ok _ _, hr⟩
    · rw [if_neg hm] at hr
      rw [if_neg (by simpa using hm)]
      exact hr
  unfold stepV
  by_cases hm : mayP p.v ∧ nodeP me
  · rw [if_neg (fun c => c hm)]
    by_cases hl : p.v.l = 0
    · rw [if_pos hl]
      refine ⟨pk0, X, go _ ?_, rfl, pk0_own _ _, x3⟩
      rw [if_pos hm.1, decide_eq_true hm.2]
      refine L0_step ?_
      rw [if_neg (by simp)]
      refine ⟨_, rldc' gp3 3, ?_⟩
      rw [if_pos hl]
      exact ⟨_, x1, _, _, _, _, _, _, _, _, _, _, x2, rfl⟩
    · rw [if_neg hl]
      obtain ⟨q, H4, c4, hq, o4, p4⟩ := F76.ok h3
      have hn4 := p4.next
      have gp4 : H4.get H.next = .row p.cells true := by rw [p4.get _ (by omega)]; exact gp3
      have gz4 : H4.get H1.next = .row pk0.cells true := by rw [p4.get _ (by omega)]; exact gz3
      let X4 := H4.set H.next (.row q.cells true)
      let s : Pk := { q with v := { q.v with l := IntKind.wrap .i64 (q.v.l - 1) } }
      let X5 := X4.set H.next (.row s.cells true)
      let X6 := X5.set H1.next (.row s.cells true)
      have w4 : stc H4 H.next 0 q.cells = some X4 := rstAll gp4 rfl
      have g4 : X4.get H.next = .row q.cells true := by simp [X4]
      have w5 : stc X4 H.next 3 [.int .i64 (IntKind.wrap .i64 (q.v.l - 1))] = some X5 := rstc' g4 (i := 3) (by simp) _
      have g5 : X5.get H.next = .row s.cells true := by simp [X5]
      have gz5 : X5.get H1.next = .row pk0.cells true := by
        show ((H4.set _ _).set _ _).get _ = _
        rw [Heap.get_set_ne _ _ _ _ (by omega), Heap.get_set_ne _ _ _ _ (by omega)]; exact gz4
      have w6 : stc X5 H1.next 0 s.cells = some X6 := rstAll gz5 rfl
      have g6 : X6.get H1.next = .row s.cells true := by simp [X6]
      have hl2 := hm.1.2.2.2.2.1
      have hs : s.v = { p.v with l := p.v.l - 1 } := by
        show ({ q.v with l := IntKind.wrap .i64 (q.v.l - 1) } : PV) = _
        rw [hq, i64 (by omega) (by omega)]
      have os : PkOwn H3.next X6 s := by
        have : PkOwn H3.next H4 s := ⟨o4.path, o4.data, o4.ps, o4.ds, o4.apart⟩
        exact ((this.set (by omega) _).set (by omega) _).set (by omega) _
      refine ⟨s, X6, go _ ?_, hs, os.weak (by omega), (((k3.trans (p4.weak (by omega))).trans (Keep.set _ (Nat.le_refl _))).trans (Keep.set _ (Nat.le_refl _))).trans (Keep.set _ (by omega))⟩
      rw [if_pos hm.1, decide_eq_true hm.2]
      refine L0_step ?_
      rw [if_neg (by simp)]
      refine ⟨_, rldc' gp3 3, ?_⟩
      rw [if_neg hl]
      exact ⟨_, _, _, _, _, _, _, _, _, _, rldAll gp3, _, _, _, _, _, _, _, _, _, _, _, c4, _, w4, _, rldc' g4 3, _, w5, _, _, _, _, _, _, _, _, _, _, rldAll g5, _, w6, _, _, _, _, _, _, _, _, _, _, rldAll g6, rfl⟩
  · rw [if_pos hm]
    obtain ⟨q, H', z, h1, h2, h3⟩ := no
    refine ⟨q, H', go _ ?_, h1, h2, h3⟩
    by_cases hm1 : mayP p.v
    · rw [if_pos hm1, decide_eq_false fun hn => hm ⟨hm1, hn⟩]; exact z
    · rw [if_neg hm1]; exact z
end F58
def upV (v : PV) (me : Int) : PV × Int :=
  let s := stepV v me
  if s.2 ≠ 0 ∨ me ∈ s.1.path then s else if 16 ≤ s.1.path.length then (pv0, 5) else ({ s.1 with path := s.1.path ++ [me] }, 0)
def downV (v : PV) (me : Int) : PV × Int × Int :=
  let s := stepV v me
  if s.2 ≠ 0 then (s.1, 0, s.2) else if ix s.1.path me < 0 ∨ ix s.1.path me = (s.1.path.length : Int) - 1 then (pv0, 0, 6) else (s.1, s.1.path.getD (ix s.1.path me + 1).toNat 0, 0)
namespace F24
theorem ok {H : Heap} {p : Pk} (h : PkOk H p) (me : Int) : ∃ q H', Cr 24 [p.agg, .int .i64 me] H = some (.tuple #[q.agg, .int .i64 (upV p.v me).2], H') ∧ q.v = (upV p.v me).1 ∧ PkOwn H.next H' q ∧ Keep H.next H H' := by
  obtain ⟨H1, H2, e1, e2, n1, n2, g1, g2, g3, k1, k2⟩ := two H p.cells pk0.cells
  have h2 := h.keep k2
  obtain ⟨q, H3, c3, hq, o3, p3⟩ := F58.ok h2 me
  have hn3 := p3.next
  have gp3 : H3.get H.next = .row p.cells true := by rw [p3.get _ (by omega)]; exact g2
  have gz3 : H3.get H1.next = .row pk0.cells true := by rw [p3.get _ (by omega)]; exact g3
  have k3 : Keep H.next H H3 := k2.trans (p3.weak (by omega))
  let X4 := H3.set H.next (.row q.cells true)
  have w4 : stc H3 H.next 0 q.cells = some X4 := rstAll gp3 rfl
  have g4 : X4.get H.next = .row q.cells true := by simp [X4]
  have gz4 : X4.get H1.next = .row pk0.cells true := by
    show (H3.set _ _).get _ = _
    rw [Heap.get_set_ne _ _ _ _ (by omega)]; exact gz3
  have o4 : PkOwn H2.next X4 q := o3.set (by omega) _
  have k4 : Keep H.next H X4 := k3.trans (Keep.set _ (Nat.le_refl _))
  have hn4 : X4.next = H3.next := rfl
  have go : ∀ r, (if (stepV p.v me).2 = 0 then L0 me H.next 0 H1.next 0 (stepV p.v me).2 (decide (me ∈ q.v.path)) X4 r else L0 me H.next 0 H1.next 0 (stepV p.v me).2 true X4 r) → Cr 24 [p.agg, .int .i64 me] H = some r := by
    intro r hr
    refine call ⟨_, e1, _, e2, _, _, _, _, _, _, _, _, _, _, rldAll g2, _, _, _, _, _, _, _, _, _, _, _, _, c3, _, w4, ?_⟩
    by_cases he : (stepV p.v me).2 = 0
    · rw [if_pos he] at hr ⊢
      exact ⟨_, _, _, rldc' g4 4, _, _, F59.ok o4.path.sl (by have := o4.ps; omega) _, hr⟩
    · rw [if_neg he] at hr ⊢
      exact hr
  unfold upV
  simp only
  have same : ∃ H', L0 me H.next 0 H1.next 0 (stepV p.v me).2 true X4 (.tuple #[q.agg, .int .i64 (stepV p.v me).2], H') ∧ PkOwn H.next H' q ∧ Keep H.next H H' := by
    let X5 := X4.set H1.next (.row q.cells true)
    have g5 : X5.get H1.next = .row q.cells true := by simp [X5]
    refine ⟨X5, L0_step ?_, (o4.set (by omega) _).weak (by omega), k4.trans (Keep.set _ (by omega))⟩
    rw [if_pos rfl]
    exact ⟨_, _, _, _, _, _, _, _, _, _, rldAll g4, _, rstAll gz4 rfl, _, _, _, _, _, _, _, _, _, _, rldAll g5, rfl⟩
  by_cases hs : (stepV p.v me).2 ≠ 0 ∨ me ∈ (stepV p.v me).1.path
  · rw [if_pos hs]
    obtain ⟨H', z, o, kk⟩ := same
    refine ⟨q, H', go _ ?_, hq, o, kk⟩
    by_cases he : (stepV p.v me).2 = 0
    · rw [if_pos he, decide_eq_true (by rw [hq]; exact hs.resolve_left fun c => c he)]; exact z
    · rw [if_neg he]; exact z
  · rw [if_neg hs]
    have he : (stepV p.v me).2 = 0 := Classical.byContradiction fun c => hs (.inl c)
    have hm : me ∉ q.v.path := by rw [hq]; exact fun c => hs (.inr c)
    by_cases h16 : 16 ≤ (stepV p.v me).1.path.length
    · rw [if_pos h16]
      refine ⟨pk0, _, go _ ?_, rfl, pk0_own _ _, k4.trans (Keep.set (.row pk0.cells true) (show H.next ≤ H1.next by omega))⟩
      rw [if_pos he, decide_eq_false hm]
      refine L0_step ?_
      rw [if_neg (by simp)]
      refine ⟨_, _, _, rldc' g4 4, ?_⟩
      rw [if_pos (by rw [hq]; omega)]
      exact ⟨_, rstAll gz4 rfl, _, _, _, _, _, _, _, _, _, _, rldAll (vs := pk0.cells) (own := true) (by simp [pk0, pv0]), rfl⟩
    · rw [if_neg h16]
      rw [← hq] at h16 ⊢
      have on := OwnI.new (K := .i64) X4 [me]
      have k5 : Keep X4.next X4 (X4.push (.row (List.map (Value.int .i64) [me]) true)) := Keep.push _ (Nat.le_refl _)
      obtain ⟨a6, k6, H6, c6, o6, g6, f6⟩ := (o4.path.keep k5).append' (by_ := 8) on.sl (by decide) (by simp; omega) (by simp; omega) (by simp; omega)
      have c6 : papp (X4.push (.row (List.map (Value.int .i64) [me]) true)) 1 8 q.pa q.v.path.length q.pk (some ⟨X4.next, 0, none⟩) 1 (UNK 1) = some ((a6, (q.v.path ++ [me]).length, k6), H6) := by rw [List.length_append]; exact c6
      have o6 : OwnI .i64 H2.next H6 a6 (q.v.path ++ [me]).length k6 (q.v.path ++ [me]) := by rw [List.length_append, OwnI, List.map_append]; exact o6
      have np : ¬In1 q.pa H.next := fun h => by have := (o4.path.lt h).1; omega
      have nz : ¬In1 q.pa H1.next := fun h => by have := (o4.path.lt h).1; omega
      have gp6 : H6.get H.next = .row q.cells true := by rw [g6.get _ (by simp; omega) np, k5.get _ (by omega)]; exact g4
      have gz6 : H6.get H1.next = .row pk0.cells true := by rw [g6.get _ (by simp; omega) nz, k5.get _ (by omega)]; exact gz4
      have hd6 : OwnI .u8 H2.next H6 q.da q.v.data.length q.dk q.v.data := (o4.data.keep k5).chg g6 fun b hb h => o4.apart b h hb
      have g6k : Keep H.next (X4.push (.row (List.map (Value.int .i64) [me]) true)) H6 := g6.keep (by simp; omega) fun b _ h => by have := (o4.path.lt h).1; omega
      let s : Pk := ⟨{ q.v with path := q.v.path ++ [me] }, a6, k6, q.da, q.dk⟩
      have os : PkOwn H2.next H6 s := ⟨o6, hd6, by show (q.v.path ++ [me]).length ≤ _; simp; omega, o4.ds, fun b h1 h2 => by
        rcases f6 b h1 with h | h
        · exact o4.apart b h h2
        · have := (o4.data.lt h2).2; simp at h; omega⟩
      let X7 := H6.set H.next (.row s.cells true)
      let X8 := X7.set H1.next (.row s.cells true)
      have w7 : stc H6 H.next 4 [.slice a6 (q.v.path ++ [me]).length k6] = some X7 := rstc' gp6 (i := 4) (by simp) _
      have g7 : X7.get H.next = .row s.cells true := by simp [X7]
      have gz7 : X7.get H1.next = .row pk0.cells true := by
        show (H6.set _ _).get _ = _
        rw [Heap.get_set_ne _ _ _ _ (by omega)]; exact gz6
      have g8 : X8.get H1.next = .row s.cells true := by simp [X8]
      refine ⟨s, X8, go _ ?_, rfl, ((os.set (by omega) _).set (by omega) _).weak (by omega), (((k4.trans (k5.weak (by omega))).trans g6k).trans (Keep.set _ (Nat.le_refl _))).trans (Keep.set _ (by omega))⟩
      rw [if_pos he, decide_eq_false hm]
      refine L0_step ?_
      rw [if_neg (by simp)]
      refine ⟨_, _, _, rldc' g4 4, ?_⟩
      rw [if_neg (by omega)]
      exact ⟨_, _, _, rldc' g4 4, _, rfl, _, _, _, _, c6, _, w7, _, _, _, _, _, _, _, _, _, _, rldAll g7, _, rstAll gz7 rfl, _, _, _, _, _, _, _, _, _, _, rldAll g8, rfl⟩
end F24
namespace F26
theorem ok {H : Heap} {p : Pk} (h : PkOk H p) (me : Int) : ∃ q H', Cr 26 [p.agg, .int .i64 me] H = some (.tuple #[q.agg, .int .i64 (downV p.v me).2.1, .int .i64 (downV p.v me).2.2], H') ∧ q.v = (downV p.v me).1 ∧ PkOwn H.next H' q ∧ Keep H.next H H' := by
  obtain ⟨H1, H2, e1, e2, n1, n2, g1, g2, g3, k1, k2⟩ := two H p.cells pk0.cells
  have h2 := h.keep k2
  obtain ⟨q, H3, c3, hq, o3, p3⟩ := F58.ok h2 me
  have hn3 := p3.next
  have gp3 : H3.get H.next = .row p.cells true := by rw [p3.get _ (by omega)]; exact g2
  have gz3 : H3.get H1.next = .row pk0.cells true := by rw [p3.get _ (by omega)]; exact g3
  have k3 : Keep H.next H H3 := k2.trans (p3.weak (by omega))
  let X4 := H3.set H.next (.row q.cells true)
  have w4 : stc H3 H.next 0 q.cells = some X4 := rstAll gp3 rfl
  have g4 : X4.get H.next = .row q.cells true := by simp [X4]
  have gz4 : X4.get H1.next = .row pk0.cells true := by
    show (H3.set _ _).get _ = _
    rw [Heap.get_set_ne _ _ _ _ (by omega)]; exact gz3
  have o4 : PkOwn H2.next X4 q := o3.set (by omega) _
  have k4 : Keep H.next H X4 := k3.trans (Keep.set _ (Nat.le_refl _))
  let X5 := X4.set H1.next (.row q.cells true)
  have w5 : stc X4 H1.next 0 q.cells = some X5 := rstAll gz4 rfl
  have g5 : X5.get H1.next = .row q.cells true := by simp [X5]
  have gq5 : X5.get H.next = .row q.cells true := by
    show (X4.set _ _).get _ = _
    rw [Heap.get_set_ne _ _ _ _ (by omega)]; exact g4
  have o5 : PkOwn H2.next X5 q := o4.set (by omega) _
  have k5 : Keep H.next H X5 := k4.trans (Keep.set _ (by omega))
  have ps := o4.ps
  unfold downV
  simp only
  by_cases he : (stepV p.v me).2 = 0
  · rw [if_neg (fun c => c he)]
    have go : ∀ r, (if ix q.v.path me < 0 then L0 H.next 0 H1.next 0 (ix q.v.path me) true X4 r else L0 H.next 0 H1.next 0 (ix q.v.path me) (ix q.v.path me == IntKind.wrap .i64 ((q.v.path.length : Int) - 1)) X4 r) → Cr 26 [p.agg, .int .i64 me] H = some r := by
      intro r hr
      refine call ⟨_, e1, _, e2, _, _, _, _, _, _, _, _, _, _, rldAll g2, _, _, _, _, _, _, _, _, _, _, _, _, c3, _, w4, ?_⟩
      rw [if_pos he]
      refine ⟨_, _, _, rldc' g4 4, _, _, F60.ok o4.path.sl (by omega) _, ?_⟩
      by_cases hi : ix q.v.path me < 0
      · rw [if_pos hi] at hr ⊢; exact hr
      · rw [if_neg hi] at hr ⊢; exact ⟨_, _, _, rldc' g4 4, hr⟩
    rw [← hq]
    have ew : IntKind.wrap .i64 ((q.v.path.length : Int) - 1) = (q.v.path.length : Int) - 1 := i64 (by omega) (by omega)
    by_cases hi : ix q.v.path me < 0 ∨ ix q.v.path me = (q.v.path.length : Int) - 1
    · rw [if_pos hi]
      have z : L0 H.next 0 H1.next 0 (ix q.v.path me) true X4 (.tuple #[pk0.agg, .int .i64 0, .int .i64 6], X4.set H1.next (.row pk0.cells true)) := by
        refine L0_step ?_
        rw [if_pos rfl]
        exact ⟨_, rstAll gz4 rfl, _, _, _, _, _, _, _, _, _, _, rldAll (vs := pk0.cells) (own := true) (by simp [pk0, pv0]), rfl⟩
      refine ⟨pk0, _, go _ ?_, rfl, pk0_own _ _, k4.trans (Keep.set (.row pk0.cells true) (show H.next ≤ H1.next by omega))⟩
      by_cases hi0 : ix q.v.path me < 0
      · rw [if_pos hi0]; exact z
      · rw [if_neg hi0, ew, beq_iff_eq.2 (hi.resolve_left hi0)]; exact z
    · rw [if_neg hi]
      have hl := ix_le q.v.path me
      obtain ⟨b, o, hb⟩ := o4.path.sl.at (by omega)
      have e1' : IntKind.wrap .i64 (ix q.v.path me + 1) = (((ix q.v.path me + 1).toNat : Nat) : Int) := by rw [i64 (by omega) (by omega)]; omega
      have hx := getD_some (xs := q.v.path) (j := (ix q.v.path me + 1).toNat) (by omega)
      have s4 := o4.path.sl
      have s5 := o5.path.sl
      rw [hb] at s4 s5
      refine ⟨q, X5, go _ ?_, rfl, o5.weak (by omega), k5⟩
      rw [if_neg (fun c => hi (.inl c)), ew, show (ix q.v.path me == (q.v.path.length : Int) - 1) = false from beq_eq_false_iff_ne.2 fun c => hi (.inr c)]
      refine L0_step ?_
      rw [if_neg (by simp), e1']
      exact ⟨_, _, _, _, _, _, _, _, _, _, rldAll g4, _, _, _, rldc' g4 4, b, o, hb, by omega, by omega, _, Ints.get s4 hx, X5, w5, rldc' gq5 4, Ints.get s5 hx, _, _, _, _, _, _, _, _, _, _, rldAll g5, rfl⟩
  · rw [if_pos he]
    refine ⟨q, X5, call ⟨_, e1, _, e2, _, _, _, _, _, _, _, _, _, _, rldAll g2, _, _, _, _, _, _, _, _, _, _, _, _, c3, _, w4, ?_⟩, hq, o5.weak (by omega), k5⟩
    rw [if_neg he]
    exact ⟨_, _, _, _, _, _, _, _, _, _, rldAll g4, _, w5, _, _, _, _, _, _, _, _, _, _, rldAll g5, rfl⟩
end F26
namespace F20
theorem ok (H : Heap) : ∃ H', Cr 20 [] H = some (.bool true, H') ∧ Keep H.next H H' := by
  have o1 := OwnI.new (K := .i64) H [3, 2, 0]
  have k1 : Keep H.next H (H.push (.row [.int .i64 3, .int .i64 2, .int .i64 0] true)) := Keep.push _ (Nat.le_refl _)
  generalize E1 : H.push (.row [.int .i64 3, .int .i64 2, .int .i64 0] true) = H1 at k1
  rw [show H.push (.row (List.map (Value.int .i64) [3, 2, 0]) true) = H1 from E1] at o1
  have n1 := k1.next
  obtain ⟨a2, m2, H2, c2, o2, g2⟩ := F21.ok o1.sl (by simp)
  have eb : backL [3, 2, 0] = [0, 2, 3] := by decide
  rw [eb] at c2 o2
  have n2 := g2.next
  have o3 := OwnI.new (K := .i64) H2 [0, 2, 3]
  have k3 : Keep H2.next H2 (H2.push (.row [.int .i64 0, .int .i64 2, .int .i64 3] true)) := Keep.push _ (Nat.le_refl _)
  generalize E3 : H2.push (.row [.int .i64 0, .int .i64 2, .int .i64 3] true) = H3 at k3
  rw [show H2.push (.row (List.map (Value.int .i64) [0, 2, 3]) true) = H3 from E3] at o3
  have o4 := OwnI.new (K := .u8) H3 [5]
  have k4 : Keep H3.next H3 (H3.push (.row [.int .u8 5] true)) := Keep.push _ (Nat.le_refl _)
  generalize E4 : H3.push (.row [.int .u8 5] true) = H4 at k4
  rw [show H3.push (.row (List.map (Value.int .u8) [5]) true) = H4 from E4] at o4
  let p : Pk := ⟨⟨1, 3, 0, 2, [0, 2, 3], [5]⟩, some ⟨H2.next, 0, none⟩, UNK 1, some ⟨H3.next, 0, none⟩, UNK 1⟩
  have hp : PkOk H4 p := ⟨(o3.keep k4).sl, o4.sl, by simp [p], by simp [p]⟩
  obtain ⟨q, H5, c5, hq, o5, g5⟩ := F26.ok hp 2
  have ed : downV ⟨1, 3, 0, 2, [0, 2, 3], [5]⟩ 2 = (⟨1, 3, 0, 1, [0, 2, 3], [5]⟩, 3, 0) := by decide
  have hq : q.v = (downV ⟨1, 3, 0, 2, [0, 2, 3], [5]⟩ 2).1 := hq
  have c5 : Cr 26 [p.agg, .int .i64 2] H4 = some (.tuple #[q.agg, .int .i64 (downV ⟨1, 3, 0, 2, [0, 2, 3], [5]⟩ 2).2.1, .int .i64 (downV ⟨1, 3, 0, 2, [0, 2, 3], [5]⟩ 2).2.2], H5) := c5
  rw [ed] at c5 hq
  simp only at c5 hq
  obtain ⟨H6, e6, n6, g6, k6⟩ := one H5 pk0.cells
  let X7 := H6.set H5.next (.row q.cells true)
  have w7 : stc H6 H5.next 0 q.cells = some X7 := rstAll g6 rfl
  have g7 : X7.get H5.next = .row q.cells true := by simp [X7]
  have k67 : Keep H5.next H5 X7 := k6.trans (Keep.set _ (Nat.le_refl _))
  have s7 := ((((o2.sl.keep k3).keep k4).keep g5).keep k67)
  obtain ⟨b, o, rfl⟩ := s7.at (by simp)
  have n3 := k3.next
  have n4 := k4.next
  have n5 := g5.next
  refine ⟨X7, call ⟨_, E1.symm, _, _, _, _, c2, _, E3.symm, _, E4.symm, _, _, _, _, _, _, _, _, _, _, _, _, _, c5, _, e6, X7, w7, ?_⟩, ((((k1.trans (g2.weak n1)).trans (k3.weak (by omega))).trans (k4.weak (by omega))).trans (g5.weak (by omega))).trans (k67.weak (by omega))⟩
  rw [if_pos rfl]
  refine ⟨b, o, rfl, by omega, by simp, _, by simpa using Ints.get s7 (i := 0) rfl, ?_⟩
  rw [if_pos rfl]
  refine ⟨by omega, by simp, _, by simpa using Ints.get s7 (i := 2) rfl, ?_⟩
  rw [if_pos rfl, if_pos rfl]
  refine ⟨_, rldc' g7 3, ?_⟩
  rw [hq]
  rfl
end F20
namespace F27
theorem ok {H : Heap} {p : Pk} : ∃ H', Cr 27 [p.agg] H = some (.bool (decide (p.v.path.length ≤ 60 ∧ p.v.data.length ≤ 200)), H') ∧ Keep H.next H H' := by
  obtain ⟨H1, e1, n1, g1, k1⟩ := one H p.cells
  refine ⟨H1, call ⟨_, e1, _, _, _, rldc' g1 4, ?_⟩, k1⟩
  by_cases c : p.v.path.length ≤ 60
  · rw [if_pos (by omega)]
    refine ⟨_, _, _, rldc' g1 5, ?_⟩
    rw [show decide ((p.v.data.length : Int) ≤ 200) = decide (p.v.path.length ≤ 60 ∧ p.v.data.length ≤ 200) from decide_eq_decide.2 ⟨fun h => ⟨c, by omega⟩, fun h => by omega⟩]
  · rw [if_neg (by omega), decide_eq_false fun h => c h.1]
end F27
namespace F25
theorem l0 {H : Heap} {a0 a1 : Option Addr} {n k0 k1 : Nat} {xs ys : List Int} (h0 : Ints .i64 H a0 n k0 xs) (h1 : Ints .i64 H a1 n k1 ys) (hn : n ≤ 140737488355328) : ∀ (d j : Nat), j + d = n → L0 a0 n k0 a1 n k1 (n : Int) (j : Int) H (.bool (decide (xs.drop j = ys.drop j)), H) := by
  have hl := h0.ln
  have hl1 := h1.ln
  intro d
  induction d with
  | zero =>
    intro j hj
    refine L0_step ?_
    rw [if_neg (by omega), List.drop_eq_nil_of_le (by omega), List.drop_eq_nil_of_le (by omega)]
    rfl
  | succ d ih =>
    intro j hj
    obtain ⟨b0, o0, rfl⟩ := h0.at (by omega)
    obtain ⟨b1, o1, rfl⟩ := h1.at (by omega)
    have hx := getD_some (xs := xs) (j := j) (by omega)
    have hy := getD_some (xs := ys) (j := j) (by omega)
    refine L0_step ?_
    rw [if_pos (by omega)]
    refine ⟨b0, o0, rfl, by omega, by omega, _, Ints.get h0 hx, b1, o1, rfl, by omega, by omega, _, Ints.get h1 hy, ?_⟩
    have ed : ∀ zs : List Int, j < zs.length → zs.drop j = zs.getD j 0 :: zs.drop (j + 1) := fun zs hz => by rw [List.drop_eq_getElem_cons hz]; simp [List.getD, hz]
    rw [ed xs (by omega), ed ys (by omega)]
    by_cases e : xs.getD j 0 = ys.getD j 0
    · rw [if_pos e, i64 (by omega) (by omega), e]
      simp only [List.cons.injEq, true_and]
      exact_mod_cast ih (j + 1) (by omega)
    · rw [if_neg e]
      simp only [List.cons.injEq, e, false_and, decide_false]
theorem ok {H : Heap} {a0 a1 : Option Addr} {n m k0 k1 : Nat} {xs ys : List Int} (h0 : Ints .i64 H a0 n k0 xs) (h1 : Ints .i64 H a1 m k1 ys) (hn : n ≤ 140737488355328) : Cr 25 [.slice a0 n k0, .slice a1 m k1] H = some (.bool (decide (xs = ys)), H) := by
  have hl := h0.ln
  have hl1 := h1.ln
  refine call ?_
  by_cases e : n = m
  · subst e
    rw [if_pos rfl]
    simpa using l0 h0 h1 hn n 0 (by omega)
  · rw [if_neg (by omega), decide_eq_false fun h => e (by rw [← hl, ← hl1, h])]
end F25
theorem stepV_may {v : PV} {me : Int} (hm : mayP v) (hn : nodeP me) (hl : v.l ≠ 0) : stepV v me = ({ v with l := v.l - 1 }, 0) := by
  unfold stepV; rw [if_neg (fun c => c ⟨hm, hn⟩), if_neg hl]
theorem stepV_0 {v : PV} {me : Int} (hm : mayP v) (hn : nodeP me) (hl : v.l = 0) : stepV v me = (pv0, 11) := by
  unfold stepV; rw [if_neg (fun c => c ⟨hm, hn⟩), if_pos hl]
abbrev TPk : Ty := .strct (.pair (.int .i64) (.pair (.int .i64) (.pair (.int .i64) (.pair (.int .i64) (.pair (.slice (.int .i64) 8) (.pair (.slice (.int .u8) 1) .unit))))))
theorem pkOf {H : Heap} {vs : List Value} (h : Holds H TPk vs) : ∃ p : Pk, vs = p.cells ∧ (PkOk H p ∧ IsB p.v.data) := by
  obtain ⟨_, _, rfl, ⟨a, rfl, _⟩, _, _, rfl, ⟨b, rfl, _⟩, _, _, rfl, ⟨c, rfl, _⟩, _, _, rfl, ⟨d, rfl, _⟩, _, _, rfl, hs, _, _, rfl, ht, rfl⟩ := h
  obtain ⟨x, n, k, xs, rfl, s, l, w⟩ := hs.ints
  obtain ⟨y, m, j, ys, rfl, s2, l2, w2⟩ := ht.ints
  have e1 := s.ln
  have e2 := s2.ln
  subst e1 e2
  exact ⟨⟨⟨a, b, c, d, xs, ys⟩, x, k, y, j⟩, rfl, ⟨s, s2, by show xs.length ≤ _; omega, by show ys.length ≤ _; omega⟩, IsB.of w2⟩
theorem ix_next {xs : List Int} {me : Int} (hn : xs.Nodup) (h0 : ¬ix xs me < 0) (h1 : ¬ix xs me = (xs.length : Int) - 1) : ix xs (xs.getD (ix xs me + 1).toNat 0) = ix xs me + 1 := by
  have hl := ix_le xs me
  have := ix_nodup xs (ix xs me + 1).toNat _ hn (getD_some (by omega))
  rw [this]; omega
end Go.X
