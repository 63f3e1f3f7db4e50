/- The law CellRound. -/
import Derived.Test.YtomibdncbioijaaXzDc
import Derived.Test.YtomibdncbioijaaXzTd6
set_option linter.unusedVariables false
set_option linter.unusedSimpArgs false
set_option maxRecDepth 20000
namespace Go.X
open Go Go.RowKit Go.Proofs
theorem set_get {f x : Int} (hf : inP f 0 3) : (([0, 0, 0, 0] : List Int).set f.toNat x).getD f.toNat 0 = x := by
  rw [List.getD, List.getElem?_set_self (by have := hf.1; have := hf.2; simp; omega)]; rfl
theorem frE_nil {f x : Int} (hf : inP f 0 3) (hx : inP x 0 200) : frE [] f x = 0 := by
  unfold frE; rw [if_neg (fun c => c ⟨hf, hx⟩), if_neg (by simp)]
theorem eqC (a b : C5) : ((a.f == b.f) && ((a.s == b.s) && ((a.c == b.c) && ((a.o == b.o) && ((a.p == b.p) && true))))) = decide (a = b) := by
  by_cases h : a = b
  · subst h; simp
  · rw [decide_eq_false h]
    cases a; cases b
    simp only [C5.mk.injEq] at h
    exact Bool.eq_false_iff.2 fun q => h (by simpa using q)
/-- The one time in a round. -/
def hitAt (A L s : Nat) : Nat := if A % L ≤ s then s - A % L else s + L - A % L
theorem hit_iff {A L s i : Nat} (hi : i < L) (hs : s < L) : (A + i) % L = s ↔ i = hitAt A L s := by
  have hr := Nat.mod_lt A (show 0 < L by omega)
  have e : (A + i) % L = (A % L + i) % L := (Nat.mod_add_mod A L i).symm
  rw [e]
  unfold hitAt
  generalize A % L = r at *
  by_cases h : r + i < L
  · rw [Nat.mod_eq_of_lt h]; split <;> omega
  · rw [Nat.mod_eq_sub_mod (by omega), Nat.mod_eq_of_lt (by omega)]; split <;> omega
theorem hitAt_lt {A L s : Nat} (hs : s < L) : hitAt A L s < L := by
  have hr := Nat.mod_lt A (show 0 < L by omega)
  unfold hitAt; split <;> omega
namespace F6
theorem l1 {base : Nat} {G : Heap} {D P : Nat} {ln : List Int} {a : Option Addr} {k : Nat} {c : C5} {l : List C5} {L A s : Nat} {e : Int} (ht : TB base G D ln a k l) (g : G.get P = .row c.cells true) (hP : P < G.next) (hm : mayC c) (hs : c.s = (s : Int)) (hL : ln.getD c.f.toNat 0 = (L : Int)) (h1 : 1 ≤ L ∧ L ≤ 200) (hA : A < 549755813888)
    (hl : s < L ∧ l = [c] ∧ e = 0 ∨ l = [] ∧ e = 6) : ∀ (r i n : Nat) (H : Heap), i + r = L → Keep G.next G H → n = (if e = 0 ∧ hitAt A L s < i then 1 else 0) → ∃ H', L1 (L : Int) (A : Int) P 0 (some ⟨D, 0, none⟩) e (n : Int) (L : Int) (i : Int) H (.bool true, H') := by
  have ti : ∀ c' ∈ l, inP c'.f 0 3 ∧ ln.getD c'.f.toNat 0 ≠ 0 := by
    intro c' hc
    rcases hl with ⟨_, rfl, _⟩ | ⟨rfl, _⟩
    · rw [List.mem_singleton.1 hc]; exact ⟨hm.1, by rw [hL]; omega⟩
    · cases hc
  have hlen : l.length ≤ 1000 := by rcases hl with ⟨_, rfl, _⟩ | ⟨rfl, _⟩ <;> simp
  have hact : ∀ q : Nat, q < 549755814900 → act ln (q : Int) l = if e = 0 ∧ q % L = s then [c] else [] := by
    intro q hq
    unfold act
    rw [if_neg (by omega)]
    rcases hl with ⟨_, rfl, rfl⟩ | ⟨rfl, rfl⟩
    · have et : Int.tmod (q : Int) (L : Int) = ((q % L : Nat) : Int) := rfl
      rw [List.filter_cons, hL, et, hs]
      by_cases h : q % L = s
      · rw [if_pos (by rw [decide_eq_true_eq]; omega), if_pos ⟨rfl, h⟩]; rfl
      · rw [if_neg (by rw [decide_eq_true_eq]; omega), if_neg (fun q => h q.2)]; rfl
    · rw [if_neg (fun q => absurd q.1 (by decide))]; rfl
  intro r
  induction r with
  | zero =>
    intro i n H hi hk hn
    obtain ⟨H', c', _⟩ := F19.ok H
    refine ⟨H', L1_step ?_⟩
    rw [if_neg (by omega), if_pos ?_]
    · exact ⟨_, _, c', rfl⟩
    · rcases hl with ⟨h2, _, rfl⟩ | ⟨_, rfl⟩
      · have := hitAt_lt (A := A) h2
        rw [if_pos ⟨rfl, by omega⟩] at hn
        rw [hn]; rfl
      · rw [if_neg (fun q => absurd q.1 (by decide))] at hn
        rw [hn]; rfl
  | succ r ih =>
    intro i n H hi hk hn
    have ea : IntKind.wrap .i64 ((A : Int) + (i : Int)) = ((A + i : Nat) : Int) := by rw [i64 (by omega) (by omega)]; omega
    have eb : IntKind.wrap .i64 ((i : Int) + (L : Int)) = ((i + L : Nat) : Int) := by rw [i64 (by omega) (by omega)]; omega
    have ec : IntKind.wrap .i64 ((A : Int) + ((i + L : Nat) : Int)) = ((A + i + L : Nat) : Int) := by rw [i64 (by omega) (by omega)]; omega
    have en : IntKind.wrap .i64 ((i : Int) + 1) = ((i + 1 : Nat) : Int) := by rw [i64 (by omega) (by omega)]; omega
    have ht0 := ht.keep hk
    obtain ⟨x1, k1, H1, c1, s1, kp1⟩ := F21.ok ht0 hlen ti ((A + i : Nat) : Int)
    obtain ⟨x2, k2, H2, c2, s2, kp2⟩ := F21.ok (ht0.keep kp1) hlen ti ((A + i + L : Nat) : Int)
    rw [hact _ (by omega)] at c1 s1
    rw [hact _ (by omega), Nat.add_mod_right] at c2 s2
    have hk2 := (hk.th kp1).th kp2
    have g1 : H1.get P = .row c.cells true := by rw [(hk.th kp1).get _ hP]; exact g
    by_cases h : e = 0 ∧ (A + i) % L = s
    · rw [if_pos h] at c1 s1 c2
      have hi0 : i = hitAt A L s := by
        rcases hl with ⟨h2, _, _⟩ | ⟨_, h2⟩
        · exact (hit_iff (by omega) h2).1 h.2
        · rw [h2] at h; exact absurd h.1 (by decide)
      rw [if_neg (by omega)] at hn
      obtain ⟨b, o, rfl⟩ := s1.at (by simp)
      have ra := s1.recs C5.z (i := 0) (x := c) rfl
      obtain ⟨H', z⟩ := ih (i + 1) 1 H2 (by omega) hk2 (by rw [if_pos ⟨h.1, by omega⟩])
      refine ⟨H', L1_step ?_⟩
      rw [if_pos (by omega), ea]
      refine ⟨_, _, _, _, c1, ?_⟩
      rw [if_neg (by simp), if_pos (by simp)]
      refine ⟨by omega, _, rldc' g1 1, ?_⟩
      have et : Int.tmod ((A + i : Nat) : Int) (L : Int) = (((A + i) % L : Nat) : Int) := rfl
      rw [et, if_pos (by rw [h.2, hs])]
      refine ⟨b, o, rfl, by omega, by simp, _, _, _, _, _, by simpa using ra, _, _, _, _, _, rldAll g1, ?_⟩
      rw [if_pos (by rw [eqC]; simp), eb, ec]
      refine ⟨_, _, _, _, c2, L2_step ?_⟩
      rw [if_neg (by simp), en, hn]
      have e1 : IntKind.wrap .i64 (((0 : Nat) : Int) + (([c] : List C5).length : Int)) = ((1 : Nat) : Int) := by rw [i64 (by simp) (by simp)]; rfl
      rw [e1]
      exact z
    · rw [if_neg h] at c1 s1 c2
      have hn' : n = if e = 0 ∧ hitAt A L s < i + 1 then 1 else 0 := by
        rw [hn]
        by_cases h0 : e = 0
        · have hne : i ≠ hitAt A L s := fun q => by
            rcases hl with ⟨h2, _, _⟩ | ⟨_, h2⟩
            · exact h ⟨h0, (hit_iff (by omega) h2).2 q⟩
            · rw [h2] at h0; exact absurd h0 (by decide)
          by_cases h3 : hitAt A L s < i
          · rw [if_pos ⟨h0, h3⟩, if_pos ⟨h0, by omega⟩]
          · rw [if_neg (fun q => h3 q.2), if_neg (fun q => by have := q.2; omega)]
        · rw [if_neg (fun q => h0 q.1), if_neg (fun q => h0 q.1)]
      have hn2 : n ≤ 1 := by rw [hn]; split <;> omega
      obtain ⟨H', z⟩ := ih (i + 1) n H2 (by omega) hk2 hn'
      refine ⟨H', L1_step ?_⟩
      rw [if_pos (by omega), ea]
      refine ⟨_, _, _, _, c1, ?_⟩
      rw [if_neg (by simp), if_neg (by simp), eb, ec]
      refine ⟨_, _, _, _, c2, L2_step ?_⟩
      rw [if_neg (by simp), en]
      have e1 : IntKind.wrap .i64 ((n : Int) + (([] : List C5).length : Int)) = (n : Int) := by
        show IntKind.wrap .i64 ((n : Int) + 0) = _
        rw [i64 (by omega) (by omega), Int.add_zero]
      rw [e1]
      exact z
theorem ok (c : C5) (y w : Int) (H : Heap) : ∃ H', Cd 6 [c.agg, .int .i64 y, .int .i64 w] H = some (.bool true, H') := by
  obtain ⟨x, ex, hx⟩ := modN y 200 (by decide) (by decide)
  obtain ⟨A, eA, hA⟩ := modN w 549755813888 (by decide) (by decide)
  have eL : IntKind.wrap .i64 (1 + (x : Int)) = ((x + 1 : Nat) : Int) := by rw [i64 (by omega) (by omega)]; omega
  obtain ⟨H1, e1, n1, g1, k1⟩ := one H c.cells
  obtain ⟨H2, c2, t2, k2, n2⟩ := F16.ok H1
  have g2 : H2.get H.next = .row c.cells true := by rw [k2.get _ (by omega)]; exact g1
  obtain ⟨H3, c3, k3⟩ := F17.ok c H2
  have t3 := t2.keep k3
  have m3 := k3.next
  have g3 : H3.get H.next = .row c.cells true := by rw [k3.get _ (by omega)]; exact g2
  by_cases hm : mayC c
  · have hf := hm.1
    have hs := hm.2.1
    obtain ⟨s, es⟩ : ∃ s : Nat, c.s = (s : Int) := ⟨c.s.toNat, by have := hs.1; omega⟩
    have hxL : inP ((x + 1 : Nat) : Int) 0 200 := ⟨by omega, by omega⟩
    obtain ⟨H4, c4, t4, k4⟩ := F20.ok t3 (by simp) c.f ((x + 1 : Nat) : Int)
    rw [frE_nil hf hxL] at c4 t4
    rw [if_pos rfl] at t4
    have g4 : H4.get H.next = .row c.cells true := by rw [k4.get _ (by omega)]; exact g3
    obtain ⟨a5, k5', H5, c5, t5, k5⟩ := F18.first t4 c
    have g5 : H5.get H.next = .row c.cells true := by rw [k5.get _ (by omega)]; exact g4
    have hP : H.next < H5.next := by have := t5.lt; omega
    have ad : adE0 (([0, 0, 0, 0] : List Int).set c.f.toNat ((x + 1 : Nat) : Int)) c = if c.s ≥ ((x + 1 : Nat) : Int) then 6 else 0 := by
      unfold adE0; rw [if_neg (fun h => h hm), set_get hf]
    have l0 : ∃ H', (if ((adE0 (([0, 0, 0, 0] : List Int).set c.f.toNat ((x + 1 : Nat) : Int)) c == 0) == (decide (c.s < ((x + 1 : Nat) : Int)))) = true then
        (if adE0 (([0, 0, 0, 0] : List Int).set c.f.toNat ((x + 1 : Nat) : Int)) c = 0 then L0 ((x + 1 : Nat) : Int) (A : Int) H.next 0 (some ⟨H1.next, 0, none⟩) (adE0 (([0, 0, 0, 0] : List Int).set c.f.toNat ((x + 1 : Nat) : Int)) c) false H5 (.bool true, H')
        else L0 ((x + 1 : Nat) : Int) (A : Int) H.next 0 (some ⟨H1.next, 0, none⟩) (adE0 (([0, 0, 0, 0] : List Int).set c.f.toNat ((x + 1 : Nat) : Int)) c) (!(adE0 (([0, 0, 0, 0] : List Int).set c.f.toNat ((x + 1 : Nat) : Int)) c == 6)) H5 (.bool true, H'))
        else L0 ((x + 1 : Nat) : Int) (A : Int) H.next 0 (some ⟨H1.next, 0, none⟩) (adE0 (([0, 0, 0, 0] : List Int).set c.f.toNat ((x + 1 : Nat) : Int)) c) true H5 (.bool true, H')) := by
      rw [ad] at t5 ⊢
      by_cases h : c.s ≥ ((x + 1 : Nat) : Int)
      · rw [if_pos h] at t5 ⊢
        rw [if_neg (by decide)] at t5
        obtain ⟨H', z⟩ := l1 (e := 6) (A := A) (L := x + 1) t5 g5 hP hm es (set_get hf) ⟨by omega, by omega⟩ (by omega) (.inr ⟨rfl, rfl⟩) (x + 1) 0 0 H5 (by omega) (Keep.refl _ _) (by rw [if_neg (fun q => absurd q.1 (by decide))])
        refine ⟨H', ?_⟩
        rw [decide_eq_false (by omega), if_pos (by decide), if_neg (by decide)]
        refine L0_step ?_
        rw [if_neg (by decide)]
        exact z
      · rw [if_neg h] at t5 ⊢
        rw [if_pos rfl] at t5
        obtain ⟨H', z⟩ := l1 (e := 0) (A := A) (L := x + 1) t5 g5 hP hm es (set_get hf) ⟨by omega, by omega⟩ (by omega) (.inl ⟨by omega, rfl, rfl⟩) (x + 1) 0 0 H5 (by omega) (Keep.refl _ _) (by rw [if_neg (fun q => by have := q.2; omega)])
        refine ⟨H', ?_⟩
        rw [decide_eq_true (by omega), if_pos (by decide), if_pos rfl]
        refine L0_step ?_
        rw [if_neg (by decide)]
        exact z
    obtain ⟨H', z⟩ := l0
    refine ⟨H', call ⟨_, e1, _, _, c2, _, _, _, _, _, rldAll g2, _, _, c3, ?_⟩⟩
    rw [if_pos (decide_eq_true hm), ex, eL, eA]
    refine ⟨_, rldc' g3 0, _, _, c4, ?_⟩
    rw [if_pos rfl]
    exact ⟨_, _, _, _, _, rldAll g4, _, _, c5, _, rldc' g5 1, z⟩
  · obtain ⟨a4, k4', H4, c4, t4, k4⟩ := F18.first t3 c
    have ad : adE0 [0, 0, 0, 0] c = 1 := by unfold adE0; rw [if_pos hm]
    rw [ad] at c4
    obtain ⟨H5, c5, _⟩ := F19.ok H4
    refine ⟨H5, call ⟨_, e1, _, _, c2, _, _, _, _, _, rldAll g2, _, _, c3, ?_⟩⟩
    rw [if_neg (by simpa using hm)]
    refine ⟨_, _, _, _, _, rldAll g3, _, _, c4, ?_⟩
    rw [if_pos rfl]
    exact ⟨_, _, c5, rfl⟩
abbrev TC5 : Ty := .strct (.pair (.int .i64) (.pair (.int .i64) (.pair (.int .i64) (.pair (.int .i64) (.pair (.int .i64) (.unit))))))
theorem cOf {H : Heap} {vs : List Value} (h : Holds H TC5 vs) : ∃ v : C5, vs = v.cells := by
  obtain ⟨_, _, rfl, ⟨a, rfl, _⟩, _, _, rfl, ⟨b, rfl, _⟩, _, _, rfl, ⟨c, rfl, _⟩, _, _, rfl, ⟨d, rfl, _⟩, _, _, rfl, ⟨e, rfl, _⟩, rfl⟩ := h
  exact ⟨⟨a, b, c, d, e⟩, rfl⟩
theorem law {H : Heap} {ds : List (List Value)} (h : HoldsAll H [TC5, .int .i64, .int .i64] ds) : ∃ H', Cd 6 (vals [TC5, .int .i64, .int .i64] ds) H = some (.bool true, H') := by
  obtain ⟨d0, _, rfl, h0, h⟩ := h.cons
  obtain ⟨d1, _, rfl, h1, h⟩ := h.cons
  obtain ⟨d2, _, rfl, h2, h⟩ := h.cons
  obtain rfl := h.nil
  obtain ⟨a, rfl⟩ := cOf h0
  obtain ⟨y, rfl, _⟩ := h1.i
  obtain ⟨z, rfl, _⟩ := h2.i
  exact ok a y z H
end F6
end Go.X
