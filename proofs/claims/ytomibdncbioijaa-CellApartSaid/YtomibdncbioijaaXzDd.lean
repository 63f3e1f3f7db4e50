/- Cells in order: adding, removing. -/
import Derived.Test.YtomibdncbioijaaXzDc
import Derived.Test.YtomibdncbioijaaXzTdU
import Derived.Test.YtomibdncbioijaaXzD
set_option linter.unusedVariables false
set_option linter.unusedSimpArgs false
set_option maxRecDepth 20000
namespace Go.X
open Go Go.RowKit Go.Proofs
def below (c x : C5) : Bool := decide (cmpC x c < 0)
def pos (c : C5) (l : List C5) : Nat := (l.takeWhile (below c)).length
def insC (c : C5) (l : List C5) : List C5 := l.take (pos c l) ++ c :: l.drop (pos c l)
def SL (l : List C5) : Prop := l.Pairwise fun x y => cmpC x y < 0
theorem tw_len {p : C5 → Bool} : ∀ {l : List C5} {i : Nat}, i ≤ l.length → (∀ q x, q < i → l[q]? = some x → p x = true) → (∀ x, l[i]? = some x → p x = false) → (l.takeWhile p).length = i
  | [], i, hi, _, _ => by simp at hi; subst hi; rfl
  | c :: l, 0, hi, _, h2 => by rw [List.takeWhile_cons, if_neg (by rw [h2 c rfl]; decide)]; rfl
  | c :: l, i + 1, hi, h1, h2 => by
    rw [List.takeWhile_cons, if_pos (h1 0 c (by omega) rfl), List.length_cons]
    rw [tw_len (l := l) (i := i) (by simpa using hi) (fun q x hq hx => h1 (q + 1) x (by omega) (by simpa using hx)) (fun x hx => h2 x (by simpa using hx))]
theorem pos_le (c : C5) (l : List C5) : pos c l ≤ l.length := by
  unfold pos
  have h := congrArg List.length (List.takeWhile_append_dropWhile (p := below c) (l := l))
  rw [List.length_append] at h; omega
theorem SL.get {l : List C5} (h : SL l) {p q : Nat} {x y : C5} (hp : l[p]? = some x) (hq : l[q]? = some y) (hpq : p < q) : cmpC x y < 0 := by
  obtain ⟨p1, rfl⟩ := List.getElem?_eq_some_iff.1 hp
  obtain ⟨q1, rfl⟩ := List.getElem?_eq_some_iff.1 hq
  exact List.pairwise_iff_getElem.1 h p q p1 q1 hpq
theorem half {x : Nat} (hx : x < 4611686018427387904) : IntKind.wrap .i64 (ishr .u64 (IntKind.wrap .u64 (IntKind.wrap .i64 (x : Int))) 1) = ((x / 2 : Nat) : Int) := by
  have a1 : IntKind.wrap .i64 (x : Int) = (x : Int) := i64 (by omega) (by omega)
  have a2 : IntKind.wrap .u64 (x : Int) = (x : Int) := u64 (by omega) (by omega)
  have a3 : IntKind.wrap .i64 ((x / 2 : Nat) : Int) = ((x / 2 : Nat) : Int) := i64 (by omega) (by omega)
  have e : (x : Int) = nb (BitVec.ofNat 64 x) := by show _ = (((BitVec.ofNat 64 x).toNat : Nat) : Int); rw [BitVec.toNat_ofNat, Nat.mod_eq_of_lt (by omega)]
  have e2 : ishr .u64 (nb (BitVec.ofNat 64 x)) ((1 : Nat) : Int) = nb (BitVec.ofNat 64 x >>> 1) := ishr_nb (k := .u64) (BitVec.ofNat 64 x) 1 (by decide)
  have e3 : nb (BitVec.ofNat 64 x >>> 1) = ((x / 2 : Nat) : Int) := by
    rw [nb, BitVec.toNat_ushiftRight, Nat.shiftRight_eq_div_pow, BitVec.toNat_ofNat, Nat.mod_eq_of_lt (by omega)]
  rw [a1, a2, e, show (1 : Int) = ((1 : Nat) : Int) from rfl, e2, e3, a3]
theorem goes42 : fnGoes Try.prog 42 = true := by kernel_rfl
namespace F41
theorem l0 {G : Heap} {a : Option Addr} {n k P : Nat} {l : List C5} {c : C5} (hs : Cells G a n k l) (hl : l.length = n) (hn : n ≤ 1000) (sl : SL l) (g : G.get P = .row c.cells true) (hP : P < G.next) : ∀ (r i j : Nat) (H : Heap), j - i ≤ r → i ≤ j → j ≤ n → (∀ q x, q < i → l[q]? = some x → below c x = true) → (∀ x, l[j]? = some x → below c x = false) → Keep G.next G H →
    ∃ t H', L0 a n k (.func (.func 42) #[] #[]) P 0 (n : Int) (i : Int) (j : Int) H (.tuple #[.int .i64 ((pos c l : Nat) : Int), .bool t], H') ∧ Keep G.next G H' := by
  intro r
  induction r with
  | zero =>
    intro i j H hr hij hj h1 h2 hk
    obtain rfl : i = j := by omega
    have hp : pos c l = i := tw_len (by omega) h1 h2
    rw [hp]
    by_cases hin : i < n
    · obtain ⟨b, o, rfl⟩ := hs.at (by omega)
      obtain ⟨x, hx⟩ : ∃ x, l[i]? = some x := ⟨_, List.getElem?_eq_getElem (by omega)⟩
      have ra := (hs.keep hk).recs C5.z hx
      obtain ⟨H1, c1, k1⟩ := F42.ok x c H
      have gP : H.get P = .row c.cells true := by rw [hk.get _ hP]; exact g
      refine ⟨cmpC x c == 0, H1, L0_step ?_, hk.th k1⟩
      rw [if_neg (by omega), if_pos (by omega)]
      exact ⟨b, o, rfl, by omega, by omega, _, _, _, _, _, ra, _, _, _, _, _, rldAll gP, 42, #[], #[], rfl, goes42, _, _, by simpa using c1, rfl⟩
    · refine ⟨false, H, L0_step ?_, hk⟩
      rw [if_neg (by omega), if_neg (by omega)]
  | succ r ih =>
    intro i j H hr hij hj h1 h2 hk
    by_cases hlt : i < j
    · have eij : (i : Int) + (j : Int) = ((i + j : Nat) : Int) := by omega
      have hm := half (x := i + j) (by omega)
      obtain ⟨b, o, rfl⟩ := hs.at (by omega)
      obtain ⟨x, hx⟩ : ∃ x, l[(i + j) / 2]? = some x := ⟨_, List.getElem?_eq_getElem (by omega)⟩
      have ra := (hs.keep hk).recs C5.z hx
      obtain ⟨H1, c1, k1⟩ := F42.ok x c H
      have gP : H.get P = .row c.cells true := by rw [hk.get _ hP]; exact g
      by_cases hb : cmpC x c < 0
      · obtain ⟨t, H', z, q⟩ := ih ((i + j) / 2 + 1) j H1 (by omega) (by omega) hj (fun q y hq hy => by
          by_cases hqe : q = (i + j) / 2
          · rw [hqe, hx] at hy; cases hy; exact decide_eq_true hb
          · exact decide_eq_true (lx_trans (sl.get hy hx (by omega)) hb)) h2 (hk.th k1)
        refine ⟨t, H', L0_step ?_, q⟩
        rw [if_pos (by omega), eij, hm]
        refine ⟨b, o, rfl, by omega, by omega, _, _, _, _, _, ra, _, _, _, _, _, rldAll gP, 42, #[], #[], rfl, goes42, _, _, by simpa using c1, ?_⟩
        rw [if_pos hb, i64 (by omega) (by omega)]
        exact_mod_cast z
      · obtain ⟨t, H', z, q⟩ := ih i ((i + j) / 2) H1 (by omega) (by omega) (by omega) h1 (fun y hy => by rw [hx] at hy; cases hy; exact decide_eq_false hb) (hk.th k1)
        refine ⟨t, H', L0_step ?_, q⟩
        rw [if_pos (by omega), eij, hm]
        refine ⟨b, o, rfl, by omega, by omega, _, _, _, _, _, ra, _, _, _, _, _, rldAll gP, 42, #[], #[], rfl, goes42, _, _, by simpa using c1, ?_⟩
        rw [if_neg hb]
        exact z
    · exact ih i j H (by omega) hij hj h1 h2 hk
theorem ok {H : Heap} {a : Option Addr} {n k : Nat} {l : List C5} (hs : Cells H a n k l) (hl : l.length = n) (hn : n ≤ 1000) (sl : SL l) (c : C5) : ∃ t H', Cd 41 [.slice a n k, c.agg, .func (.func 42) #[] #[]] H = some (.tuple #[.int .i64 ((pos c l : Nat) : Int), .bool t], H') ∧ Keep H.next H H' := by
  obtain ⟨H1, e1, n1, g1, k1⟩ := one H c.cells
  obtain ⟨t, H', z, q⟩ := l0 (hs.keep k1) hl hn sl g1 (by omega) n 0 n H1 (by omega) (by omega) (Nat.le_refl _) (fun q x hq => by omega) (fun x hx => by rw [List.getElem?_eq_none (by omega)] at hx; cases hx) (Keep.refl _ _)
  exact ⟨t, H', call ⟨_, e1, z⟩, k1.th q⟩
end F41
theorem flat_take {α : Type} {f : α → List Value} {z : Nat} (hz : ∀ x, (f x).length = z) : ∀ (l : List α) (i : Nat), (l.flatMap f).take (i * z) = (l.take i).flatMap f ∧ (l.flatMap f).drop (i * z) = (l.drop i).flatMap f
  | [], i => by simp
  | x :: l, 0 => by simp
  | x :: l, i + 1 => by
    obtain ⟨a, b⟩ := flat_take hz l i
    have e : (i + 1) * z = (f x).length + i * z := by rw [hz, Nat.add_mul]; omega
    rw [e, List.flatMap_cons, List.take_length_add_append, List.drop_length_add_append, a, b]
    simp
/-- What a cell that is added is answered. -/
def adE (ln : List Int) (l : List C5) (c : C5) : Int := if ¬mayC c then 1 else if c.s ≥ ln.getD c.f.toNat 0 then 6 else if ∃ x ∈ l, x.f = c.f ∧ x.s = c.s ∧ x.c = c.c then 9 else if 64 ≤ l.length then 5 else 0
namespace F18
theorem ok {base : Nat} {H : Heap} {D : Nat} {ln : List Int} {a : Option Addr} {k : Nat} {l : List C5} (ht : TB base H D ln a k l) (hl : l.length ≤ 64) (sl : SL l) (c : C5) :
    ∃ a' k' H', Cd 18 [.pointer (some ⟨D, 0, none⟩), c.agg] H = some (.int .i64 (adE ln l c), H') ∧ TB base H' D ln a' k' (if adE ln l c = 0 then insC c l else l) ∧ Keep base H H' := by
  obtain ⟨H1, e1, n1, g1, k1⟩ := one H c.cells
  obtain ⟨H2, c2, k2⟩ := F17.ok c H1
  have k12 := k1.trans (k2.weak (by omega))
  have ht2 := ht.keep k12
  have hlt := ht.lt
  have hlb := ht.lb
  have kb : Keep base H H2 := k12.weak (by omega)
  have m2 := k2.next
  have start : ∀ rv, L0 (some ⟨D, 0, none⟩) H.next 0 (!decide (mayC c)) H2 rv → Cd 18 [.pointer (some ⟨D, 0, none⟩), c.agg] H = some rv := by
    intro rv hv
    refine call ⟨_, e1, ?_⟩
    rw [if_neg (by simp)]
    exact ⟨_, _, _, _, _, rldAll g1, _, _, c2, hv⟩
  unfold adE
  by_cases hm : mayC c
  · rw [if_neg (fun x => x hm)]
    have g2 : H2.get H.next = .row c.cells true := by rw [k2.get _ (by omega)]; exact g1
    have hf := hm.1
    have ld : ldc H2 D (0 + Int.toNat c.f * 1) = some (.int .i64 (ln.getD c.f.toNat 0)) := by
      rw [show 0 + Int.toNat c.f * 1 = c.f.toNat by omega, rldc' ht2.row]
      exact tbj (by rw [ht.len]; have := hf.1; have := hf.2; omega)
    by_cases hs : c.s ≥ ln.getD c.f.toNat 0
    · rw [if_pos hs, if_neg (by decide)]
      refine ⟨a, k, H2, start _ (L0_step ?_), ht2, kb⟩
      rw [if_neg (by simpa using hm)]
      refine ⟨_, rldc' g2 1, _, rldc' g2 0, D, 0, rfl, hf.1, by have := hf.2; omega, _, ld, ?_⟩
      rw [if_pos hs]
    · rw [if_neg hs]
      obtain ⟨H3, c3, k3⟩ := F39.ok (p := fun x => x.f = c.f ∧ x.s = c.s ∧ x.c = c.c) (g := 40) (ys := #[.pointer (some ⟨H.next, 0, none⟩)]) F40.goes (fun x X kX => F40.ok x c (by rw [kX.get _ (by omega)]; exact g2) (by have := kX.next; omega)) ht2.own.sl (by omega)
      have ht3 := ht2.keep k3
      have m3 := k3.next
      have g3 : H3.get H.next = .row c.cells true := by rw [k3.get _ (by omega)]; exact g2
      have kb3 : Keep base H H3 := kb.trans (k3.weak (by omega))
      by_cases hcl : ∃ x ∈ l, x.f = c.f ∧ x.s = c.s ∧ x.c = c.c
      · rw [if_pos hcl, if_neg (by decide)]
        rw [decide_eq_true hcl] at c3
        refine ⟨a, k, H3, start _ (L0_step ?_), ht3, kb3⟩
        rw [if_neg (by simpa using hm)]
        refine ⟨_, rldc' g2 1, _, rldc' g2 0, D, 0, rfl, hf.1, by have := hf.2; omega, _, ld, ?_⟩
        rw [if_neg hs]
        refine ⟨_, _, _, (rldc' ht2.row 4).trans (tb4 ht.len), _, _, c3, ?_⟩
        rw [if_pos rfl]
      · rw [if_neg hcl]
        rw [decide_eq_false hcl] at c3
        by_cases hfu : 64 ≤ l.length
        · rw [if_pos hfu, if_neg (by decide)]
          refine ⟨a, k, H3, start _ (L0_step ?_), ht3, kb3⟩
          rw [if_neg (by simpa using hm)]
          refine ⟨_, rldc' g2 1, _, rldc' g2 0, D, 0, rfl, hf.1, by have := hf.2; omega, _, ld, ?_⟩
          rw [if_neg hs]
          refine ⟨_, _, _, (rldc' ht2.row 4).trans (tb4 ht.len), _, _, c3, ?_⟩
          rw [if_neg (by simp)]
          refine ⟨_, _, _, (rldc' ht3.row 4).trans (tb4 ht.len), ?_⟩
          rw [if_pos (by omega)]
        · rw [if_neg hfu, if_pos rfl]
          obtain ⟨t4, H4, c4, k4⟩ := F41.ok ht3.own.sl rfl (by omega) sl c
          have ht4 := ht3.keep k4
          have m4 := k4.next
          have g4 : H4.get H.next = .row c.cells true := by rw [k4.get _ (by omega)]; exact g3
          obtain ⟨H5, e5, n5, g5, k5⟩ := one H4 c.cells
          have ht5 := ht4.keep k5
          have s5 : Own H4.next H5 5 (some ⟨H4.next, 0, none⟩) 1 (UNK 5) c.cells := by rw [e5]; exact Own.new (H := H4) (z := 5) (n := 1) (vs := c.cells) rfl
          have hpl := pos_le c l
          obtain ⟨a6, k6, H6, c6, o6, f6, i6⟩ := F43.any ht5.own s5 (fun hh => by have := (ht4.own.lt hh).2; omega) (by omega) hpl (by omega)
          have m6 := f6.next
          have r6 : H6.get D = .row (ln.map (Value.int .i64) ++ [.slice a l.length k]) true := by rw [f6.get _ (by omega) ht.ap]; exact ht5.row
          have ls : (ln.map (Value.int .i64)).length = 4 := by rw [List.length_map]; exact ht.len
          have s7 : stc H6 D 4 [.slice a6 (l.length + 1) k6] = some (H6.set D (.row (ln.map (Value.int .i64) ++ [.slice a6 (l.length + 1) k6]) true)) := by
            rw [rstc' r6 (i := 4) (by simp [ht.len])]
            congr 3
            rw [List.set_append_right _ _ (by omega), ls]; rfl
          have apD : ¬In1 a6 D := fun hh => by
            rcases i6 D hh with h | h
            · exact ht.ap h
            · omega
          have el : (insC c l).length = l.length + 1 := by
            unfold insC; rw [List.length_append, List.length_cons, List.length_take, List.length_drop]; omega
          have ev : (insC c l).flatMap C5.cells = (l.flatMap C5.cells).take (pos c l * 5) ++ c.cells ++ (l.flatMap C5.cells).drop (pos c l * 5) := by
            obtain ⟨f1, f2⟩ := flat_take C5.z l (pos c l)
            rw [f1, f2]; unfold insC; rw [List.flatMap_append, List.flatMap_cons, List.append_assoc]
          refine ⟨a6, k6, _, start _ (L0_step ?_), ⟨by rw [el]; exact Heap.get_set_same _ _ _, ?_, apD, ht.len, hlb, by show D < H6.next; omega⟩, (((kb3.trans (k4.weak (by omega))).trans (k5.weak (by omega))).trans (f6.keep (by omega) fun b _ hh => (ht5.own.lt hh).1)).trans (Keep.set _ hlb)⟩
          · rw [if_neg (by simpa using hm)]
            refine ⟨_, rldc' g2 1, _, rldc' g2 0, D, 0, rfl, hf.1, by have := hf.2; omega, _, ld, ?_⟩
            rw [if_neg hs]
            refine ⟨_, _, _, (rldc' ht2.row 4).trans (tb4 ht.len), _, _, c3, ?_⟩
            rw [if_neg (by simp)]
            refine ⟨_, _, _, (rldc' ht3.row 4).trans (tb4 ht.len), ?_⟩
            rw [if_neg (by omega)]
            exact ⟨_, _, _, (rldc' ht3.row 4).trans (tb4 ht.len), _, _, _, _, _, rldAll g3, _, _, _, c4, _, _, _, (rldc' ht4.row 4).trans (tb4 ht.len), _, _, _, _, _, rldAll g4, _, e5, _, _, _, _, c6, _, s7, (rldc' ht5.row 4).trans (tb4 ht.len), rfl⟩
          · rw [el, ev]
            exact o6.chg (chgSet' (p := D) (.row (ln.map (Value.int .i64) ++ [.slice a6 (l.length + 1) k6]) true)) fun b hb hh => apD ((show b = D from hh) ▸ hb)
  · rw [if_pos hm, if_neg (by decide)]
    refine ⟨a, k, H2, start _ (L0_step ?_), ht2, kb⟩
    rw [if_pos (by simpa using hm)]
end F18
theorem eqC (a b : C5) : ((a.f == b.f) && ((a.s == b.s) && ((a.c == b.c) && ((a.o == b.o) && ((a.p == b.p) && true))))) = decide (a = b) := by
  by_cases h : a = b
  · subst h; simp
  · rw [decide_eq_false h]
    cases a; cases b
    simp only [C5.mk.injEq] at h
    exact Bool.eq_false_iff.2 fun q => h (by simpa using q)
namespace F45
theorem l0 {H : Heap} {a : Option Addr} {n k P : Nat} {l : List C5} {c : C5} (hs : Cells H a n k l) (hn : n ≤ 1000) (g : H.get P = .row c.cells true) : ∀ (rest : List C5) (j : Nat), l.drop j = rest → j + rest.length = n → L0 a n k P 0 (n : Int) (j : Int) H (.int .i64 (if fx (fun x => c = x) rest < 0 then -1 else j + fx (fun x => c = x) rest), H) := by
  intro rest
  induction rest with
  | nil =>
    intro j hd hj
    simp only [List.length_nil] at hj
    refine L0_step ?_
    rw [if_neg (by omega)]; rfl
  | cons x rest ih =>
    intro j hd hj
    simp only [List.length_cons] at hj
    obtain ⟨b, o, rfl⟩ := hs.at (by omega)
    have hx := drop_get hd
    have ra := hs.recs C5.z hx
    have hbl := fx_le (fun x => c = x) rest
    refine L0_step ?_
    rw [if_pos (by omega)]
    refine ⟨_, _, _, _, _, rldAll g, b, o, rfl, by omega, by omega, _, _, _, _, _, ra, ?_⟩
    rw [eqC]
    by_cases e : c = x
    · rw [if_pos (decide_eq_true e)]
      have e1 : fx (fun x => c = x) (x :: rest) = 0 := by unfold fx; rw [if_pos e]
      rw [e1, if_neg (by omega), Int.add_zero]
    · rw [if_neg (by simpa using e), i64 (by omega) (by omega)]
      have : (if fx (fun x => c = x) (x :: rest) < 0 then (-1 : Int) else j + fx (fun x => c = x) (x :: rest)) = if fx (fun x => c = x) rest < 0 then -1 else ((j + 1 : Nat) : Int) + fx (fun x => c = x) rest := by
        have e1 : fx (fun x => c = x) (x :: rest) = if fx (fun x => c = x) rest < 0 then -1 else fx (fun x => c = x) rest + 1 := by conv => lhs; unfold fx; rw [if_neg e]
        rw [e1]
        by_cases h : fx (fun x => c = x) rest < 0
        · rw [if_pos h, if_pos h, if_pos (by omega)]
        · rw [if_neg h, if_neg h, if_neg (by omega)]; omega
      rw [this]
      exact_mod_cast ih (j + 1) (drop_next hd) (by omega)
theorem ok {H : Heap} {a : Option Addr} {n k : Nat} {l : List C5} (hs : Cells H a n k l) (hn : n ≤ 1000) (c : C5) : ∃ H', Cd 45 [.slice a n k, c.agg] H = some (.int .i64 (fx (fun x => c = x) l), H') ∧ Keep H.next H H' := by
  obtain ⟨H1, e1, n1, g1, k1⟩ := one H c.cells
  have hl := hs.cnt C5.z (by decide)
  have z := l0 (hs.keep k1) hn g1 l 0 rfl (by omega)
  have h2 := fx_le (fun x => c = x) l
  have e : (if fx (fun x => c = x) l < 0 then (-1 : Int) else ((0 : Nat) : Int) + fx (fun x => c = x) l) = fx (fun x => c = x) l := by split <;> omega
  rw [e] at z
  exact ⟨H1, call ⟨_, e1, z⟩, k1⟩
end F45
/-- A cell is taken out. -/
def remC (c : C5) (l : List C5) : List C5 := if fx (fun x => c = x) l < 0 then l else l.take (fx (fun x => c = x) l).toNat ++ l.drop ((fx (fun x => c = x) l).toNat + 1)
namespace F26
theorem ok {base : Nat} {H : Heap} {D : Nat} {ln : List Int} {a : Option Addr} {k : Nat} {l : List C5} (ht : TB base H D ln a k l) (hl : l.length ≤ 64) (c : C5) :
    ∃ a' k' H', Cd 26 [.pointer (some ⟨D, 0, none⟩), c.agg] H = some (.int .i64 (if fx (fun x => c = x) l < 0 then 6 else 0), H') ∧ TB base H' D ln a' k' (remC c l) ∧ Keep base H H' := by
  obtain ⟨H1, e1, n1, g1, k1⟩ := one H c.cells
  have ht1 := ht.keep k1
  obtain ⟨H2, c2, k2⟩ := F45.ok ht1.own.sl (by omega) c
  have ht2 := ht1.keep k2
  have hlb := ht.lb
  have hlt := ht.lt
  have m2 := k2.next
  have kb : Keep base H H2 := (k1.weak (by omega)).trans (k2.weak (by omega))
  have start : ∀ rv, (if fx (fun x => c = x) l < 0 then rv = (.int .i64 6, H2) else (∃ (t20a : Option Addr) (t20n : Nat) (t20k : Nat), ldc H2 D (0 + 4) = some (.slice t20a t20n t20k) ∧
      (∃ (t24a : Option Addr) (t24n : Nat) (t24k : Nat) (H_3 : Heap), Cd 46 [.slice t20a t20n t20k, .int .i64 (fx (fun x => c = x) l), .int .i64 (IntKind.wrap .i64 (fx (fun x => c = x) l + 1))] H2 = some (.slice t24a t24n t24k, H_3) ∧
      (∃ (H_4 : Heap), stc H_3 D (0 + 4) [.slice t24a t24n t24k] = some H_4 ∧ (rv = (.int .i64 0, H_4)))))) → Cd 26 [.pointer (some ⟨D, 0, none⟩), c.agg] H = some rv := by
    intro rv hv
    refine call ⟨_, e1, ?_⟩
    rw [if_neg (by simp)]
    exact ⟨D, 0, rfl, _, _, _, (rldc' ht1.row 4).trans (tb4 ht.len), _, _, _, _, _, rldAll g1, _, _, c2, hv⟩
  have hfl := fx_le (fun x => c = x) l
  unfold remC
  by_cases h : fx (fun x => c = x) l < 0
  · rw [if_pos h, if_pos h]
    exact ⟨a, k, H2, start _ (by rw [if_pos h]), ht2, kb⟩
  · rw [if_neg h, if_neg h]
    generalize fx (fun x => c = x) l = q at *
    obtain ⟨i, rfl⟩ : ∃ i : Nat, q = (i : Int) := ⟨q.toNat, by omega⟩
    rw [Int.toNat_natCast]
    have ei : IntKind.wrap .i64 ((i : Int) + 1) = ((i + 1 : Nat) : Int) := by rw [i64 (by omega) (by omega)]; omega
    obtain ⟨b, o, rfl⟩ := ht2.own.sl.at (by omega)
    obtain ⟨a1, n1', k1', a2, n2, k2', a3, n3, k3, H3, H4, p1, p2, p3, p4, p5, p6, own4, f4⟩ := Own.del (by_ := 40) ht2.own (by decide) [.int .i64 0, .int .i64 0, .int .i64 0, .int .i64 0, .int .i64 0] rfl (i := i) (by omega) (by omega) (by omega)
    have c46 : Cd 46 [.slice (some ⟨b, o, none⟩) l.length k, .int .i64 (i : Int), .int .i64 ((i + 1 : Nat) : Int)] H2 = some (.slice (some ⟨b, o, none⟩) (l.length - 1) k, H4) := by
      refine F46.call ⟨_, _, _, p1, ?_⟩
      rw [if_neg (by omega)]
      exact ⟨_, _, _, p2, _, _, _, p3, _, _, _, _, p4, _, _, _, p5, _, p6, rfl⟩
    have m4 := f4.next
    have r4 : H4.get D = .row (ln.map (Value.int .i64) ++ [.slice (some ⟨b, o, none⟩) l.length k]) true := by rw [f4.get _ (by omega) ht.ap]; exact ht2.row
    have ls : (ln.map (Value.int .i64)).length = 4 := by rw [List.length_map]; exact ht.len
    have s5 : stc H4 D 4 [.slice (some ⟨b, o, none⟩) (l.length - 1) k] = some (H4.set D (.row (ln.map (Value.int .i64) ++ [.slice (some ⟨b, o, none⟩) (l.length - 1) k]) true)) := by
      rw [rstc' r4 (i := 4) (by simp [ht.len])]
      congr 3
      rw [List.set_append_right _ _ (by omega), ls]; rfl
    have el : (l.take i ++ l.drop (i + 1)).length = l.length - 1 := by rw [List.length_append, List.length_take, List.length_drop]; omega
    have ev : (l.take i ++ l.drop (i + 1)).flatMap C5.cells = (l.flatMap C5.cells).take (i * 5) ++ (l.flatMap C5.cells).drop ((i + 1) * 5) := by
      rw [List.flatMap_append, (flat_take C5.z l i).1, (flat_take C5.z l (i + 1)).2]
    refine ⟨some ⟨b, o, none⟩, k, _, start _ ?_, ⟨by rw [el]; exact Heap.get_set_same _ _ _, ?_, ht.ap, ht.len, hlb, by show D < H4.next; omega⟩, (kb.trans (f4.keep (by omega) fun b' _ hh => (ht2.own.lt hh).1)).trans (Keep.set _ hlb)⟩
    · rw [if_neg h, ei]
      exact ⟨_, _, _, (rldc' ht2.row 4).trans (tb4 ht.len), _, _, _, _, c46, _, s5, rfl⟩
    · rw [el, ev]
      exact own4.chg (chgSet' (p := D) (.row (ln.map (Value.int .i64) ++ [.slice (some ⟨b, o, none⟩) (l.length - 1) k]) true)) fun b' hb hh => ht.ap ((show b' = D from hh) ▸ hb)
end F26
end Go.X
