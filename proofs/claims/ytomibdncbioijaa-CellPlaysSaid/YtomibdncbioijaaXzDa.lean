/- Cells: which one is ahead. -/
import Derived.Test.YtomibdncbioijaaXzLd
import Derived.Test.YtomibdncbioijaaXzTdK
import Derived.Test.YtomibdncbioijaaXzLib2
set_option linter.unusedVariables false
set_option linter.unusedSimpArgs false
set_option maxRecDepth 20000
namespace Go.X
open Go Go.RowKit Go.Proofs
def cmp1 (x y : Int) : Int := if x < y then -1 else if x > y then 1 else 0
def fnz : List Int → Int
  | [] => 0
  | x :: l => if x = 0 then fnz l else x
/-- Lists of numbers, the first that differs decides. -/
def lx : List Int → List Int → Int
  | x :: xs, y :: ys => if cmp1 x y = 0 then lx xs ys else cmp1 x y
  | _, _ => 0
def C5.nums (c : C5) : List Int := [c.f, c.s, c.c, c.o, c.p]
def cmpC (a b : C5) : Int := lx a.nums b.nums
theorem cmp1_0 {x y : Int} : cmp1 x y = 0 ↔ x = y := by
  unfold cmp1
  by_cases h : x < y
  · rw [if_pos h]; constructor <;> omega
  · rw [if_neg h]
    by_cases h2 : x > y
    · rw [if_pos h2]; constructor <;> omega
    · rw [if_neg h2]; constructor <;> omega
theorem cmp1_lt {x y : Int} : cmp1 x y < 0 ↔ x < y := by
  unfold cmp1
  by_cases h : x < y
  · rw [if_pos h]; constructor <;> omega
  · rw [if_neg h]
    by_cases h2 : x > y
    · rw [if_pos h2]; constructor <;> omega
    · rw [if_neg h2]; constructor <;> omega
theorem lx_0 : ∀ {xs ys : List Int}, xs.length = ys.length → (lx xs ys = 0 ↔ xs = ys)
  | [], [], _ => by simp [lx]
  | x :: xs, y :: ys, h => by
    unfold lx
    have ih := lx_0 (xs := xs) (ys := ys) (by simpa using h)
    by_cases e : cmp1 x y = 0
    · rw [if_pos e, ih, cmp1_0.1 e]; simp
    · rw [if_neg e]
      refine ⟨fun h => absurd h e, fun h => absurd (cmp1_0.2 (List.cons.inj h).1) e⟩
theorem lx_anti : ∀ {xs ys : List Int}, lx xs ys < 0 → ¬lx ys xs < 0
  | [], ys, h => by simp [lx] at h
  | x :: xs, [], h => by simp [lx] at h
  | x :: xs, y :: ys, h => by
    unfold lx at h ⊢
    by_cases e : cmp1 x y = 0
    · rw [if_pos e] at h
      rw [if_pos (cmp1_0.2 (cmp1_0.1 e).symm)]
      exact lx_anti h
    · rw [if_neg e] at h
      have h1 := cmp1_lt.1 h
      rw [if_neg (fun c => by have := cmp1_0.1 c; omega)]
      intro c; have := cmp1_lt.1 c; omega
theorem lx_tot : ∀ {xs ys : List Int}, xs.length = ys.length → ¬lx xs ys < 0 → ¬lx ys xs < 0 → xs = ys
  | [], [], _, _, _ => rfl
  | x :: xs, y :: ys, hl, h, h' => by
    unfold lx at h h'
    by_cases e : cmp1 x y = 0
    · rw [if_pos e] at h
      rw [if_pos (cmp1_0.2 (cmp1_0.1 e).symm)] at h'
      rw [cmp1_0.1 e, lx_tot (by simpa using hl) h h']
    · exfalso
      rw [if_neg e] at h
      rw [if_neg (fun c => e (cmp1_0.2 (cmp1_0.1 c).symm))] at h'
      have a : ¬x < y := fun c => h (cmp1_lt.2 c)
      have b : ¬y < x := fun c => h' (cmp1_lt.2 c)
      exact e (cmp1_0.2 (by omega))
theorem lx_trans : ∀ {xs ys zs : List Int}, lx xs ys < 0 → lx ys zs < 0 → lx xs zs < 0
  | [], ys, zs, h, _ => by simp [lx] at h
  | x :: xs, [], zs, h, _ => by simp [lx] at h
  | x :: xs, y :: ys, [], _, h => by simp [lx] at h
  | x :: xs, y :: ys, z :: zs, h, h' => by
    unfold lx at h h' ⊢
    by_cases e : cmp1 x y = 0
    · rw [if_pos e] at h
      have e1 := cmp1_0.1 e
      subst e1
      by_cases e2 : cmp1 x z = 0
      · rw [if_pos e2] at h' ⊢; exact lx_trans h h'
      · rw [if_neg e2] at h' ⊢; exact h'
    · rw [if_neg e] at h
      have h1 := cmp1_lt.1 h
      have h2 : x < z := by
        by_cases e2 : cmp1 y z = 0
        · have := cmp1_0.1 e2; omega
        · rw [if_neg e2] at h'; have := cmp1_lt.1 h'; omega
      rw [if_neg (fun c => by have := cmp1_0.1 c; omega)]
      exact cmp1_lt.2 h2
theorem lx_irr : ∀ (xs : List Int), lx xs xs = 0 := fun xs => (lx_0 rfl).2 rfl
theorem nums_inj {a b : C5} : a.nums = b.nums ↔ a = b := by
  cases a; cases b; simp [C5.nums]
namespace F52
theorem ok (x y : Int) (H : Heap) : Cd 52 [.int .i64 x, .int .i64 y] H = some (.int .i64 (cmp1 x y), H) := by
  refine call ⟨_, _, F55.call rfl, _, _, F55.call rfl, ?_⟩
  rw [if_neg (by simp), if_neg (by simp)]
  unfold cmp1
  by_cases h : x < y
  · rw [if_pos h, if_pos h]
  · rw [if_neg h, if_neg h]
    by_cases h2 : x > y
    · rw [if_pos h2, if_pos h2]
    · rw [if_neg h2, if_neg h2]
end F52
namespace F51
theorem l0 {H : Heap} {a : Option Addr} {n k : Nat} {xs : List Int} (hs : Ints .i64 H a n k xs) (hn : n ≤ 1000) : ∀ (rest : List Int) (j : Nat), xs.drop j = rest → j + rest.length = n → L0 0 a n k (n : Int) (j : Int) H (.int .i64 (fnz rest), H) := by
  intro rest
  induction rest with
  | nil =>
    intro j hd hj
    simp only [List.length_nil] at hj
    refine L0_step ?_
    rw [if_neg (by omega)]; rfl
  | cons x rest ih =>
    intro j hd hj
    simp only [List.length_cons] at hj
    obtain ⟨b, o, rfl⟩ := hs.at (by omega)
    refine L0_step ?_
    rw [if_pos (by omega)]
    refine ⟨b, o, rfl, by omega, by omega, x, Ints.get hs (drop_get hd), ?_⟩
    unfold fnz
    by_cases h : x = 0
    · rw [if_pos h, if_pos h, i64 (by omega) (by omega)]
      exact_mod_cast ih (j + 1) (drop_next hd) (by omega)
    · rw [if_neg h, if_neg h]
theorem ok {H : Heap} {a : Option Addr} {n k : Nat} {xs : List Int} (hs : Ints .i64 H a n k xs) (hn : n ≤ 1000) : Cd 51 [.slice a n k] H = some (.int .i64 (fnz xs), H) :=
  call (by exact_mod_cast l0 hs hn xs 0 rfl (by have := hs.ln; omega))
end F51
namespace F42
theorem ok (a b : C5) (H : Heap) : ∃ H', Cd 42 [a.agg, b.agg] H = some (.int .i64 (cmpC a b), H') ∧ Keep H.next H H' := by
  obtain ⟨H1, H2, e1, e2, n1, n2, g1, ga, gb, k1, k2⟩ := two H a.cells b.cells
  obtain ⟨H8, e8, n8, g8, k8⟩ := one H2 [.int .i64 (cmp1 a.f b.f), .int .i64 (cmp1 a.s b.s), .int .i64 (cmp1 a.c b.c), .int .i64 (cmp1 a.o b.o), .int .i64 (cmp1 a.p b.p)]
  have s8 : Ints .i64 H8 (some ⟨H2.next, 0, none⟩) 5 (UNK 1) [cmp1 a.f b.f, cmp1 a.s b.s, cmp1 a.c b.c, cmp1 a.o b.o, cmp1 a.p b.p] := Sl.ofRow g8 (by omega)
  have e : fnz [cmp1 a.f b.f, cmp1 a.s b.s, cmp1 a.c b.c, cmp1 a.o b.o, cmp1 a.p b.p] = cmpC a b := rfl
  have c9 := F51.ok s8 (by decide)
  rw [e] at c9
  exact ⟨H8, call ⟨_, e1, _, e2, _, rldc' ga 0, _, rldc' gb 0, _, _, F52.ok _ _ _, _, rldc' ga 1, _, rldc' gb 1, _, _, F52.ok _ _ _, _, rldc' ga 2, _, rldc' gb 2, _, _, F52.ok _ _ _, _, rldc' ga 3, _, rldc' gb 3, _, _, F52.ok _ _ _, _, rldc' ga 4, _, rldc' gb 4, _, _, F52.ok _ _ _, _, e8, _, _, c9,
    rldc' ga 1, rldc' gb 1, rldc' ga 2, rldc' ga 2, rldc' gb 2, rldc' gb 2, rldc' ga 3, rldc' ga 3, rldc' ga 3, rldc' gb 3, rldc' gb 3, rldc' gb 3, rldc' ga 4, rldc' ga 4, rldc' ga 4, rldc' ga 4, rldc' gb 4, rldc' gb 4, rldc' gb 4, rldc' gb 4, rfl⟩, k2.th k8⟩
end F42
namespace F22
theorem ok (a b : C5) (H : Heap) : ∃ H', Cd 22 [a.agg, b.agg] H = some (.bool (decide (cmpC a b < 0)), H') ∧ Keep H.next H H' := by
  obtain ⟨H1, H2, e1, e2, n1, n2, g1, ga, gb, k1, k2⟩ := two H a.cells b.cells
  obtain ⟨H3, c3, k3⟩ := F42.ok a b H2
  exact ⟨H3, call ⟨_, e1, _, e2, _, _, _, _, _, rldAll ga, _, _, _, _, _, rldAll gb, _, _, c3, rfl⟩, k2.th k3⟩
end F22
namespace F23
theorem l0 {H : Heap} {p q : Nat} {us vs : List Int} (gu : H.get p = .row (us.map (Value.int .i64)) true) (gv : H.get q = .row (vs.map (Value.int .i64)) true) (hu : us.length = 5) (hv : vs.length = 5) : ∀ (xs ys : List Int) (j : Nat), us.drop j = xs → vs.drop j = ys → j + xs.length = 5 → j + ys.length = 5 → L0 p 0 q 0 (j : Int) H (.bool (decide (lx xs ys < 0)), H) := by
  intro xs
  induction xs with
  | nil =>
    intro ys j hx hy h1 h2
    simp only [List.length_nil] at h1
    refine L0_step ?_
    rw [if_neg (by omega)]; rfl
  | cons x xs ih =>
    intro ys j hx hy h1 h2
    simp only [List.length_cons] at h1
    cases ys with
    | nil => simp only [List.length_nil] at h2; omega
    | cons y ys =>
      simp only [List.length_cons] at h2
      have lu : ldc H p (0 + Int.toNat (j : Int) * 1) = some (.int .i64 x) := by
        rw [Int.toNat_natCast, rldc' gu, List.getElem?_map, show 0 + j * 1 = j by omega, drop_get hx]; rfl
      have lv : ldc H q (0 + Int.toNat (j : Int) * 1) = some (.int .i64 y) := by
        rw [Int.toNat_natCast, rldc' gv, List.getElem?_map, show 0 + j * 1 = j by omega, drop_get hy]; rfl
      refine L0_step ?_
      rw [if_pos (by omega)]
      refine ⟨by omega, by omega, x, lu, by omega, by omega, y, lv, ?_⟩
      unfold lx
      by_cases h : x = y
      · rw [if_pos h, if_pos (cmp1_0.2 h), i64 (by omega) (by omega)]
        exact_mod_cast ih ys (j + 1) (drop_next hx) (drop_next hy) (by omega) (by omega)
      · rw [if_neg h, if_neg (fun c => h (cmp1_0.1 c))]
        refine ⟨by omega, by omega, x, lu, by omega, by omega, y, lv, ?_⟩
        have : decide (x < y) = decide (cmp1 x y < 0) := by
          by_cases e : x < y
          · rw [decide_eq_true e, decide_eq_true (cmp1_lt.2 e)]
          · rw [decide_eq_false e, decide_eq_false (fun c => e (cmp1_lt.1 c))]
        rw [this]
theorem ok (a b : C5) (H : Heap) : ∃ H', Cd 23 [a.agg, b.agg] H = some (.bool (decide (cmpC a b < 0)), H') ∧ Keep H.next H H' := by
  obtain ⟨H1, H2, e1, e2, n1, n2, g1, ga, gb, k1, k2⟩ := two H a.cells b.cells
  obtain ⟨H4, s4, g4, k4, n4⟩ := fill H2 [.int .i64 0, .int .i64 0, .int .i64 0, .int .i64 0, .int .i64 0] a.cells rfl
  obtain ⟨H6, s6, g6, k6, n6⟩ := fill H4 [.int .i64 0, .int .i64 0, .int .i64 0, .int .i64 0, .int .i64 0] b.cells rfl
  have gb4 : H4.get H1.next = .row b.cells true := by rw [k4.get _ (by omega)]; exact gb
  have g4' : H6.get H2.next = .row a.cells true := by rw [k6.get _ (by omega)]; exact g4
  have z := l0 (H := H6) (p := H2.next) (q := H4.next) (us := a.nums) (vs := b.nums) g4' g6 rfl rfl a.nums b.nums 0 rfl rfl rfl rfl
  exact ⟨H6, call ⟨_, e1, _, e2, _, rldc' ga 0, _, rldc' ga 1, _, rldc' ga 2, _, rldc' ga 3, _, rldc' ga 4, _, rfl, H4, s4, _, rldc' gb4 0, _, rldc' gb4 1, _, rldc' gb4 2, _, rldc' gb4 3, _, rldc' gb4 4, _, rfl, H6, s6, z⟩, (k2.th k4).th k6⟩
end F23
end Go.X
