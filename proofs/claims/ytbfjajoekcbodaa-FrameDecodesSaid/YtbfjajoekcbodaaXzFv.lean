/- What the functions of the frames come to: sums, what may be, what is the same. -/
import Derived.Test.YtbfjajoekcbodaaXzEj
import Derived.Test.YtbfjajoekcbodaaXzTeFv
import Derived.Test.YtbfjajoekcbodaaXzCrc
import Derived.Test.YtbfjajoekcbodaaXzEk
import Derived.Test.YtbfjajoekcbodaaXzTeG
import Derived.Test.YtbfjajoekcbodaaXzTeM1
set_option linter.unusedVariables false
set_option linter.unusedSimpArgs false
set_option maxRecDepth 20000
namespace Go.X
open Go Go.RowKit Go.Proofs
theorem lo8_range (s : BitVec 16) : 0 ≤ lo8 s ∧ lo8 s < 256 := by rw [lo8_eq]; omega
theorem hi8_range (s : BitVec 16) : 0 ≤ hi8 s ∧ hi8 s < 256 := by
  have h := s.isLt
  simp only [Nat.reducePow] at h
  rw [hi8_eq]; omega
theorem IsB.crcA {xs : List Int} (h : IsB xs) : IsB (crcA xs) := by
  intro x hx
  unfold X.crcA at hx
  rcases List.mem_append.1 hx with h1 | h1
  · exact h x h1
  · simp at h1
    rcases h1 with rfl | rfl
    · exact lo8_range _
    · exact hi8_range _
theorem crcA_len (xs : List Int) : (crcA xs).length = xs.length + 2 := by simp [crcA]
namespace F78
theorem l1 {a : Nat} {o n k : Nat} {t7 t8 : Int} {H : Heap} {r : Value × Heap} : ∀ (m : Nat) (s : BitVec 16) (i : Int), i + m = 8 → 0 ≤ i →
    L0 (nb (crcN m s)) (some ⟨a, o, none⟩) n k t7 (IntKind.wrap .i64 (t8 + 1)) H r → L1 (nb s) a o n k t7 t8 i H r := by
  intro m
  induction m with
  | zero =>
    intro s i hi h0 h
    refine L1_step ?_
    rw [if_neg (by omega)]
    exact h
  | succ m ih =>
    intro s i hi h0 h
    refine L1_step ?_
    rw [if_pos (by omega), roundI, i64 (by omega) (by omega)]
    exact ih _ _ (by omega) (by omega) h
theorem l0 {H : Heap} {a : Option Addr} {n k : Nat} {xs : List Int} (hs : By H a n k xs) (hn : n < 4611686018427387904) : ∀ (rest : List Int) (j : Nat) (s : BitVec 16), xs.drop j = rest → j + rest.length = n →
    L0 (nb s) a n k (n : Int) (j : Int) H (.int .u16 (nb (crcL s rest)), H) := by
  intro rest
  induction rest with
  | nil =>
    intro j s hd hj
    simp only [List.length_nil] at hj
    refine L0_step ?_
    rw [if_neg (by omega)]
    rfl
  | cons x rest ih =>
    intro j s hd hj
    simp only [List.length_cons] at hj
    obtain ⟨b, o, rfl⟩ := hs.at (by omega)
    refine L0_step ?_
    rw [if_pos (by omega)]
    have hx : xs[j]? = some x := by have := congrArg (·[0]?) hd; simpa using this
    refine ⟨b, o, rfl, by omega, by omega, x, Ints.get hs hx, ?_⟩
    rw [byteI]
    refine l1 8 _ 0 rfl (by decide) ?_
    rw [i64 (by omega) (by omega)]
    have := ih (j + 1) (crcB s x) (by rw [← List.drop_drop, hd]; rfl) (by omega)
    rw [crcL_cons]
    exact_mod_cast this
theorem ok {H : Heap} {a : Option Addr} {n k : Nat} {xs : List Int} (hs : By H a n k xs) (hn : n < 4611686018427387904) : Ce 78 [.slice a n k] H = some (.int .u16 (nb (crcL 0#16 xs)), H) := by
  refine call ?_
  have := l0 hs hn xs 0 0#16 (by simp) (by have := hs.ln; omega)
  exact this
end F78
namespace F69
theorem l0 {H : Heap} {a0 a1 : Option Addr} {n k0 k1 : Nat} {xs ys : List Int} (h0 : Ints .u8 H a0 n k0 xs) (h1 : Ints .u8 H a1 n k1 ys) (hn : n ≤ 140737488355328) : ∀ (d j : Nat), j + d = n → L0 a0 n k0 a1 n k1 (n : Int) (j : Int) H (.bool (decide (xs.drop j = ys.drop j)), H) := by
  have hl := h0.ln
  have hl1 := h1.ln
  intro d
  induction d with
  | zero =>
    intro j hj
    refine L0_step ?_
    rw [if_neg (by omega), List.drop_eq_nil_of_le (by omega), List.drop_eq_nil_of_le (by omega)]
    rfl
  | succ d ih =>
    intro j hj
    obtain ⟨b0, o0, rfl⟩ := h0.at (by omega)
    obtain ⟨b1, o1, rfl⟩ := h1.at (by omega)
    have hx := getD_some (xs := xs) (j := j) (by omega)
    have hy := getD_some (xs := ys) (j := j) (by omega)
    refine L0_step ?_
    rw [if_pos (by omega)]
    refine ⟨b0, o0, rfl, by omega, by omega, _, Ints.get h0 hx, b1, o1, rfl, by omega, by omega, _, Ints.get h1 hy, ?_⟩
    have ed : ∀ zs : List Int, j < zs.length → zs.drop j = zs.getD j 0 :: zs.drop (j + 1) := fun zs hz => by rw [List.drop_eq_getElem_cons hz]; simp [List.getD, hz]
    rw [ed xs (by omega), ed ys (by omega)]
    by_cases e : xs.getD j 0 = ys.getD j 0
    · rw [if_pos e, i64 (by omega) (by omega), e]
      simp only [List.cons.injEq, true_and]
      exact_mod_cast ih (j + 1) (by omega)
    · rw [if_neg e]
      simp only [List.cons.injEq, e, false_and, decide_false]
theorem ok {H : Heap} {a0 a1 : Option Addr} {n m k0 k1 : Nat} {xs ys : List Int} (h0 : Ints .u8 H a0 n k0 xs) (h1 : Ints .u8 H a1 m k1 ys) (hn : n ≤ 140737488355328) : Ce 69 [.slice a0 n k0, .slice a1 m k1] H = some (.bool (decide (xs = ys)), H) := by
  have hl := h0.ln
  have hl1 := h1.ln
  refine call ?_
  by_cases e : n = m
  · subst e
    rw [if_pos rfl]
    simpa using l0 h0 h1 hn n 0 (by omega)
  · rw [if_neg (by omega), decide_eq_false fun h => e (by rw [← hl, ← hl1, h])]
end F69
namespace F79
theorem ok {H : Heap} {a : Option Addr} {n k : Nat} {xs : List Int} (hs : Ints .u8 H a n k xs) (hn : n ≤ 140737488355328) : ∃ a' k' H', Ce 79 [.slice a n k] H = some (.slice a' n k', H') ∧ OwnI .u8 H.next H' a' n k' xs ∧ Keep H.next H H' := by
  by_cases h0 : a.isNone = true
  · have : a = none := by simpa using h0
    subst this
    obtain ⟨hl, ⟨_, rfl, rfl⟩ | ⟨h, _⟩ | ⟨b, o, h, _⟩⟩ := hs
    · exact ⟨none, 0, H, call ((if_pos h0).mpr rfl), ⟨hl, .inl ⟨rfl, rfl, rfl⟩⟩, Keep.refl _ _⟩
    · cases h
    · cases h
  · have e := OwnI.new (K := .u8) H []
    have hk := Keep.push (H := H) (.row [] true) (Nat.le_refl H.next)
    obtain ⟨a', k', H', h1, h2, h3⟩ := OwnI.app 1 e (hs.keep hk) (by simp) (by simp; omega) (by simp; omega)
    simp only [List.length_nil, Nat.zero_add, List.nil_append] at h1 h2
    refine ⟨a', k', H', call ?_, h2, hk.trans h3⟩
    rw [if_neg h0]
    exact ⟨_, rfl, _, _, _, _, h1, rfl⟩
end F79
namespace F63
theorem ok {H : Heap} {a : Option Addr} {n k : Nat} {xs : List Int} (hs : By H a n k xs) (hn : n + 2 ≤ 140737488355328) : ∃ a' k' H', Ce 63 [.slice a n k] H = some (.slice a' (n + 2) k', H') ∧ Own H.next H' 1 a' (n + 2) k' ((crcA xs).map (Value.int .u8)) ∧ Keep H.next H H' := by
  obtain ⟨a1, k1, H1, c1, o1, p1⟩ := F79.ok hs (by omega)
  have hp := Keep.push (H := H1) (.row [.int .u8 (lo8 (crcL 0#16 xs)), .int .u8 (hi8 (crcL 0#16 xs))] true) (Nat.le_refl H1.next)
  have e := (Own.new (H := H1) (z := 1) (n := 2) (vs := [.int .u8 (lo8 (crcL 0#16 xs)), .int .u8 (hi8 (crcL 0#16 xs))]) rfl).sl
  obtain ⟨a', k', H', h1, h2, h3⟩ := (o1.keep hp).append (by_ := 1) e (by decide) (Nat.le_trans p1.next hp.next) (by omega) (by omega)
  refine ⟨a', k', H', call ⟨_, _, F78.ok hs (by omega), _, _, _, _, c1, _, rfl, _, _, _, _, h1, rfl⟩, ?_, p1.trans ((hp.weak p1.next).trans h3)⟩
  simpa [crcA] using h2
end F63
namespace F58
theorem ok {H : Heap} {a : Option Addr} {n k : Nat} {xs : List Int} (hs : By H a n k xs) (hn : n ≤ 140737488355328) : ∃ H', Ce 58 [.slice a n k] H = some (.bool (goodB xs), H') ∧ Keep H.next H H' := by
  have hx := hs.ln
  by_cases h2 : 2 ≤ n
  · obtain ⟨a1, k1, hp, hs1⟩ := Sl.part (show Sl H 1 a n k _ from hs) none (some ((n - 2 : Nat) : Int)) 0 (n - 2) (.inl ⟨rfl, rfl⟩) (.inr rfl) (by omega) (by omega)
    have hs1 : By H a1 (n - 2) k1 (xs.take (n - 2)) := by simpa [← List.map_take] using hs1
    obtain ⟨a', k', H', c, o, p⟩ := F63.ok hs1 (by omega)
    have c2 := F69.ok o.sl (hs.keep p) (by omega)
    refine ⟨H', call ?_, p⟩
    rw [i64 (by omega) (by omega), if_pos (by omega)]
    refine ⟨_, _, _, ?_, _, _, _, _, c, _, _, c2, ?_⟩
    · rw [show ((n : Int) - 2) = ((n - 2 : Nat) : Int) by omega]; simpa using hp
    · unfold goodB
      rw [hx]
      simp [h2]
  · refine ⟨H, call ?_, Keep.refl _ _⟩
    rw [i64 (by omega) (by omega), if_neg (by omega)]
    unfold goodB
    rw [hx]
    simp [h2]
end F58
/-- What a frame says. -/
structure VF where
  kd : Int
  s : Int
  d : Int
  q : Int
  es : List VE
  dt : List Int
  deriving DecidableEq
/-- A frame, in memory. -/
structure Fm where
  kd : Int
  s : Int
  d : Int
  q : Int
  l : List Ie
  ea : Option Addr
  ek : Nat
  dt : List Int
  da : Option Addr
  dk : Nat
abbrev Fm.v (f : Fm) : VF := ⟨f.kd, f.s, f.d, f.q, f.l.map Ie.v, f.dt⟩
abbrev Fm.cells (f : Fm) : List Value := [.int .i64 f.kd, .int .i64 f.s, .int .i64 f.d, .int .i64 f.q, .slice f.ea f.l.length f.ek, .slice f.da f.dt.length f.dk]
abbrev Fm.agg (f : Fm) : Value := .agg #[.int .i64 f.kd, .int .i64 f.s, .int .i64 f.d, .int .i64 f.q, .slice f.ea f.l.length f.ek, .slice f.da f.dt.length f.dk]
abbrev fm0 : Fm := ⟨0, 0, 0, 0, [], none, 0, [], none, 0⟩
abbrev vf0 : VF := ⟨0, 0, 0, 0, [], []⟩
structure FmOk (H : Heap) (f : Fm) : Prop where
  ies : Ies H f.ea f.l.length f.ek f.l
  ok : ∀ e ∈ f.l, IeOk H e
  dts : By H f.da f.dt.length f.dk f.dt
  ls : f.l.length ≤ 3000000000000
  ds : f.dt.length ≤ 140737488351232
theorem FmOk.keep {H H' : Heap} {f : Fm} (h : FmOk H f) (k : Keep H.next H H') : FmOk H' f := ⟨h.ies.keep k, fun e he => (h.ok e he).keep k, h.dts.keep k, h.ls, h.ds⟩
theorem FmOk.zero (H : Heap) : FmOk H fm0 := ⟨⟨rfl, .inl ⟨rfl, rfl, rfl⟩⟩, by simp, Ints.nil, by simp, by simp⟩
def fnode (x : Int) : Prop := 0 ≤ x ∧ x < 16
instance (x : Int) : Decidable (fnode x) := by unfold fnode; infer_instance
def saysP (kd d : Int) (es : List VE) (dt : List Int) : Prop := ((kd = 2 ∨ kd = 4) ∧ d ≠ 64 ∧ dt = []) ∨ (kd = 3 ∧ d = 64 ∧ dt = [] ∧ (fstV 1 es).isSome = true) ∨ ((kd = 1 ∨ kd = 5) ∧ d ≠ 64 ∧ dt ≠ [])
instance (kd d : Int) (es : List VE) (dt : List Int) : Decidable (saysP kd d es dt) := by unfold saysP; infer_instance
abbrev saysF (v : VF) : Prop := saysP v.kd v.d v.es v.dt
def mayF (v : VF) : Prop := fnode v.s ∧ (fnode v.d ∨ v.d = 64) ∧ v.d ≠ v.s ∧ (0 ≤ v.q ∧ v.q ≤ 255) ∧ okL v.es ∧ v.dt.length ≤ 64 ∧ saysF v
instance (v : VF) : Decidable (mayF v) := by unfold mayF; infer_instance
namespace F64
theorem ok (x : Int) (H : Heap) : Ce 64 [.int .i64 x] H = some (.bool (decide (fnode x)), H) := by
  refine call ?_
  by_cases h : x ≥ 0
  · rw [if_pos h, show decide (x < 16) = decide (fnode x) from decide_eq_decide.2 ⟨fun h' => ⟨h, h'⟩, fun h' => h'.2⟩]
  · rw [if_neg h, decide_eq_false fun h' => h h'.1]
end F64
theorem go65 : fnGoes Try.prog 65 = true := by kernel_rfl
theorem go17 : fnGoes Try.prog 17 = true := by kernel_rfl
namespace F65
theorem ok {H : Heap} {e : Ie} (h : IeOk H e) : ∃ H', Ce 65 [e.agg] H = some (.bool (!decide (mayE e.v)), H') ∧ Keep H.next H H' := by
  obtain ⟨H1, e1, n1, g1, k1⟩ := one H e.cells
  obtain ⟨H2, c2, k2⟩ := F14.ok (h.keep k1)
  exact ⟨H2, call ⟨_, e1, _, _, _, _, _, _, _, rldAll g1, _, _, c2, rfl⟩, k1.trans (k2.weak (by omega))⟩
end F65
namespace F70
theorem l0F {G : Heap} {a : Option Addr} {n k : Nat} {l : List Ie} (hs : Ies G a n k l) (hl : ∀ e ∈ l, IeOk G e) (hn : n ≤ 3000000000000) : ∀ (rest : List Ie) (j : Nat) (H : Heap), l.drop j = rest → j + rest.length = n → Keep G.next G H → ∃ (t : Int) (H' : Heap), L0 a n k (.func (.func 65) #[] #[]) (n : Int) (j : Int) H (.int .i64 t, H') ∧ Keep G.next G H' ∧ (0 ≤ t ↔ ¬∀ e ∈ rest, mayE e.v) := by
  intro rest
  induction rest with
  | nil =>
    intro j H hd hj hk
    simp only [List.length_nil] at hj
    refine ⟨-1, H, L0_step ?_, hk, by simp⟩
    rw [if_neg (by omega)]
  | cons e rest ih =>
    intro j H hd hj hk
    simp only [List.length_cons] at hj
    obtain ⟨b, o, rfl⟩ := hs.at (by omega)
    have hx := drop_get hd
    have ra := (hs.keep hk).recs Ie.z hx
    obtain ⟨H1, c1, k1⟩ := F65.ok ((hl e (List.mem_of_getElem? hx)).keep hk)
    have hk1 := hk.trans (k1.weak hk.next)
    by_cases h1 : mayE e.v
    · obtain ⟨t, H', z, k', ht⟩ := ih (j + 1) H1 (drop_next hd) (by omega) hk1
      refine ⟨t, H', L0_step ?_, k', by rw [ht]; simp [h1]⟩
      rw [if_pos (by omega)]
      refine ⟨b, o, rfl, by omega, by omega, _, _, _, _, _, _, _, ra, 65, #[], #[], rfl, go65, _, H1, c1, ?_⟩
      rw [if_neg (by simpa using h1), i64 (by omega) (by omega)]
      exact_mod_cast z
    · refine ⟨j, H1, L0_step ?_, hk1, by simp [h1]⟩
      rw [if_pos (by omega)]
      refine ⟨b, o, rfl, by omega, by omega, _, _, _, _, _, _, _, ra, 65, #[], #[], rfl, go65, _, H1, c1, ?_⟩
      rw [if_pos (by simpa using h1)]
end F70
namespace F39
theorem okF {H : Heap} {a : Option Addr} {n k : Nat} {l : List Ie} (hs : Ies H a n k l) (hl : ∀ e ∈ l, IeOk H e) (hn : n ≤ 3000000000000) : ∃ H', Ce 39 [.slice a n k, .func (.func 65) #[] #[]] H = some (.bool (decide (¬∀ e ∈ l, mayE e.v)), H') ∧ Keep H.next H H' := by
  obtain ⟨t, H', z, k', ht⟩ := F70.l0F hs hl hn l 0 H rfl (by have := hs.cnt Ie.z (by decide); omega) (Keep.refl _ _)
  exact ⟨H', call ⟨t, H', F70.call z, by rw [show decide (t ≥ 0) = decide (¬∀ e ∈ l, mayE e.v) from decide_eq_decide.2 ht]⟩, k'⟩
end F39
namespace F13
theorem l0F {G : Heap} {a : Option Addr} {n k : Nat} {l : List Ie} (hs : Ies G a n k l) (hn : n ≤ 3000000000000) : ∀ (rest : List Ie) (j : Nat) (H : Heap), l.drop j = rest → j + rest.length = n → j ≤ 20 → Keep G.next G H → ∃ (t : Int) (H' : Heap), L0 a n k (n : Int) (j : Int) H (.int .i64 t, H') ∧ Keep G.next G H' ∧ 0 ≤ t ∧ (0 < t ↔ ¬(j + rest.length ≤ 20 ∧ ∀ e ∈ rest, e.n ≤ 100)) := by
  intro rest
  induction rest with
  | nil =>
    intro j H hd hj h20 hk
    simp only [List.length_nil] at hj
    refine ⟨0, H, L0_step ?_, hk, by omega, by simp; omega⟩
    rw [if_neg (by omega)]
  | cons e rest ih =>
    intro j H hd hj h20 hk
    simp only [List.length_cons] at hj
    obtain ⟨b, o, rfl⟩ := hs.at (by omega)
    have ra := (hs.keep hk).recs Ie.z (drop_get hd)
    obtain ⟨H2, s2, g2, k2, n2⟩ := scratchE (H := H) (e := e)
    have hk2 := hk.trans (k2.weak hk.next)
    by_cases h1 : (j : Int) ≥ 20
    · refine ⟨j + 1, H2, L0_step ?_, hk2, by omega, by simp; omega⟩
      rw [if_pos (by omega)]
      refine ⟨b, o, rfl, by omega, by omega, _, _, _, _, _, _, _, ra, _, rfl, H2, s2, ?_⟩
      rw [if_pos h1]
      refine L1_step ?_
      rw [if_pos rfl, i64 (by omega) (by omega)]
    · by_cases h2 : (e.n : Int) > 100
      · refine ⟨j + 1, H2, L0_step ?_, hk2, by omega, by simp; omega⟩
        rw [if_pos (by omega)]
        refine ⟨b, o, rfl, by omega, by omega, _, _, _, _, _, _, _, ra, _, rfl, H2, s2, ?_⟩
        rw [if_neg h1]
        refine ⟨_, _, _, rldc' g2 4, L1_step ?_⟩
        rw [if_pos (by simpa using h2), i64 (by omega) (by omega)]
      · obtain ⟨t, H', z, k', ht0, ht⟩ := ih (j + 1) H2 (drop_next hd) (by omega) (by omega) hk2
        refine ⟨t, H', L0_step ?_, k', ht0, ?_⟩
        · rw [if_pos (by omega)]
          refine ⟨b, o, rfl, by omega, by omega, _, _, _, _, _, _, _, ra, _, rfl, H2, s2, ?_⟩
          rw [if_neg h1]
          refine ⟨_, _, _, rldc' g2 4, L1_step ?_⟩
          rw [if_neg (by simpa using h2), i64 (by omega) (by omega)]
          exact_mod_cast z
        · rw [ht]
          simp only [List.length_cons, List.mem_cons, forall_eq_or_imp]
          constructor
          · exact fun h c => h ⟨by omega, c.2.2⟩
          · exact fun h c => h ⟨by omega, by omega, c.2⟩
theorem okF {H : Heap} {a : Option Addr} {n k : Nat} {l : List Ie} (hs : Ies H a n k l) (hn : n ≤ 3000000000000) : ∃ (t : Int) (H' : Heap), Ce 13 [.slice a n k] H = some (.int .i64 t, H') ∧ Keep H.next H H' ∧ 0 ≤ t ∧ (0 < t ↔ ¬lightP l) := by
  have hl := hs.cnt Ie.z (by decide)
  obtain ⟨t, H', z, k', ht0, ht⟩ := l0F hs hn l 0 H rfl (by omega) (by omega) (Keep.refl _ _)
  exact ⟨t, H', call z, k', ht0, by rw [ht, Nat.zero_add]; rfl⟩
end F13
namespace F26
def okP (f : Fm) : Prop := lightP f.l ∧ f.dt.length ≤ 200
instance (f : Fm) : Decidable (okP f) := by unfold okP; infer_instance
theorem ok {H : Heap} {f : Fm} (h : FmOk H f) : ∃ H', Ce 26 [f.agg] H = some (.bool (decide (okP f)), H') ∧ Keep H.next H H' := by
  obtain ⟨H1, e1, n1, g1, k1⟩ := one H f.cells
  obtain ⟨t, H2, c2, k2, t0, ht⟩ := F13.okF (h.ies.keep k1) h.ls
  have k02 := k1.trans (k2.weak (by omega))
  have g2 : H2.get H.next = .row f.cells true := by rw [k2.get _ (by omega)]; exact g1
  refine ⟨H2, call ⟨_, e1, _, _, _, rldc' g1 4, _, _, c2, ?_⟩, k02⟩
  by_cases h0 : t = 0
  · rw [if_pos h0]
    refine ⟨_, _, _, rldc' g2 5, ?_⟩
    have hl : lightP f.l := Decidable.byContradiction fun c => by have := ht.2 c; omega
    rw [show decide (okP f) = decide ((f.dt.length : Int) ≤ 200) from decide_eq_decide.2 ⟨fun m => by have := m.2; omega, fun m => ⟨hl, by omega⟩⟩]
  · rw [if_neg h0, decide_eq_false fun m : okP f => (ht.1 (by omega)) m.1]
end F26
namespace F66
theorem ok {H : Heap} {f : Fm} (h : FmOk H f) : ∃ H', Ce 66 [f.agg] H = some (.bool (decide (saysP f.kd f.d (f.l.map Ie.v) f.dt)), H') ∧ Keep H.next H H' := by
  obtain ⟨H1, e1, n1, g1, k1⟩ := one H f.cells
  obtain ⟨e, H2, c2, k2, h2, v2⟩ := F21.ok (h.ies.keep k1) h.ls (fun e he => (h.ok e he).keep k1) 1
  obtain ⟨H4, s4, g4, k4, n4⟩ := scratchE (H := H2) (e := e)
  have k14 := k2.trans (k4.weak k2.next)
  have n2 := k2.next
  have gf : H4.get H.next = .row f.cells true := by rw [k14.get _ (by omega)]; exact g1
  refine ⟨H4, call ⟨_, e1, _, _, _, rldc' g1 4, _, _, _, _, _, _, _, _, _, c2, _, rfl, H4, s4, _, rldc' gf 2, _, rldc' gf 0, ?_⟩, k1.trans (k14.weak (by omega))⟩
  have one_ : (!(f.d == 64)) = decide (f.d ≠ 64) := by by_cases hd : f.d = 64 <;> simp [hd]
  rw [one_]
  have len0 : ((f.dt.length : Int) == 0) = decide (f.dt = []) := by
    rw [show ((f.dt.length : Int) == 0) = decide ((f.dt.length : Int) = 0) from rfl]
    refine decide_eq_decide.2 ⟨fun c => List.eq_nil_of_length_eq_zero (by omega), fun c => by rw [c]; rfl⟩
  have lenP : decide ((f.dt.length : Int) > 0) = decide (f.dt ≠ []) := by
    refine decide_eq_decide.2 ⟨fun c e => by rw [e] at c; simp at c, fun c => by have := List.length_pos_iff.2 c; omega⟩
  have ack : (f.kd = 2 ∨ f.kd = 4) → L0 H.next 0 (fstV 1 (f.l.map Ie.v)).isSome (decide (f.d ≠ 64)) f.kd true H4 (.bool (decide (saysP f.kd f.d (f.l.map Ie.v) f.dt)), H4) := fun hk => by
    refine L0_step ?_
    rw [if_pos rfl]
    by_cases hd : f.d = 64
    · rw [if_neg (by simpa using hd), decide_eq_false]
      rintro (m | m | m)
      · exact m.2.1 hd
      · have := m.1; omega
      · have := m.1; omega
    · rw [if_pos (by simpa using hd)]
      refine ⟨_, _, _, rldc' gf 5, ?_⟩
      rw [len0, show decide (saysP f.kd f.d (f.l.map Ie.v) f.dt) = decide (f.dt = []) from decide_eq_decide.2 ⟨fun m => by
        rcases m with m | m | m
        · exact m.2.2
        · exact m.2.2.1
        · have := m.1; omega, fun m => .inl ⟨hk, hd, m⟩⟩]
  by_cases h2 : f.kd = 2
  · rw [if_pos h2]
    have := ack (.inl h2)
    rwa [show (f.kd == 2) = true by simp [h2]]
  rw [if_neg h2]
  by_cases h4 : f.kd = 4
  · have := ack (.inr h4)
    rwa [show (f.kd == 4) = true by simp [h4]]
  rw [show (f.kd == 4) = false by simp [h4]]
  refine L0_step ?_
  rw [if_neg (by simp)]
  by_cases h3 : f.kd = 3
  · rw [if_pos h3]
    by_cases hd : f.d = 64
    · rw [if_neg (by simpa using hd)]
      refine ⟨_, _, _, rldc' gf 5, ?_⟩
      by_cases hdt : (f.dt.length : Int) = 0
      · rw [if_pos hdt]
        have hdt' : f.dt = [] := List.eq_nil_of_length_eq_zero (by omega)
        rw [show decide (saysP f.kd f.d (f.l.map Ie.v) f.dt) = (fstV 1 (f.l.map Ie.v)).isSome by
          cases hs : (fstV 1 (f.l.map Ie.v)).isSome
          · refine decide_eq_false ?_
            rintro (m | m | m)
            · exact m.2.1 hd
            · have := m.2.2.2; rw [hs] at this; cases this
            · exact m.2.1 hd
          · exact decide_eq_true (.inr (.inl ⟨h3, hd, hdt', hs⟩))]
      · rw [if_neg hdt, decide_eq_false]
        rintro (m | m | m)
        · exact m.2.1 hd
        · exact hdt (by rw [m.2.2.1]; rfl)
        · exact m.2.1 hd
    · rw [if_pos (by simpa using hd), decide_eq_false]
      rintro (m | m | m)
      · have := m.1; omega
      · exact hd m.2.1
      · have := m.1; omega
  rw [if_neg h3]
  have dat : (f.kd = 1 ∨ f.kd = 5) → L1 H.next 0 (decide (f.d ≠ 64)) true H4 (.bool (decide (saysP f.kd f.d (f.l.map Ie.v) f.dt)), H4) := fun hk => by
    refine L1_step ?_
    rw [if_pos rfl]
    by_cases hd : f.d = 64
    · rw [if_neg (by simpa using hd), decide_eq_false]
      rintro (m | m | m)
      · exact m.2.1 hd
      · exact h3 m.1
      · exact m.2.1 hd
    · rw [if_pos (by simpa using hd)]
      refine ⟨_, _, _, rldc' gf 5, ?_⟩
      rw [lenP, show decide (saysP f.kd f.d (f.l.map Ie.v) f.dt) = decide (f.dt ≠ []) from decide_eq_decide.2 ⟨fun m => by
        rcases m with m | m | m
        · have := m.1; omega
        · exact absurd m.1 h3
        · exact m.2.2, fun m => .inr (.inr ⟨hk, hd, m⟩)⟩]
  by_cases h1 : f.kd = 1
  · rw [if_pos h1]
    have := dat (.inl h1)
    rwa [show (f.kd == 1) = true by simp [h1]]
  rw [if_neg h1]
  by_cases h5 : f.kd = 5
  · have := dat (.inr h5)
    rwa [show (f.kd == 5) = true by simp [h5]]
  · rw [show (f.kd == 5) = false by simp [h5]]
    refine L1_step ?_
    rw [if_neg (by simp), decide_eq_false]
    rintro (m | m | m)
    · have := m.1; omega
    · exact h3 m.1
    · have := m.1; omega
end F66
namespace F34
theorem ok {H : Heap} {f : Fm} (h : FmOk H f) : ∃ H', Ce 34 [f.agg] H = some (.bool (decide (mayF f.v)), H') ∧ Keep H.next H H' := by
  obtain ⟨H1, e1, n1, g1, k1⟩ := one H f.cells
  have h1 := h.keep k1
  have bad : ¬mayF f.v → L0 H.next 0 true H1 (.bool (decide (mayF f.v)), H1) := fun hm => by
    refine L0_step ?_
    rw [if_pos rfl, decide_eq_false hm]
  -- the second half: the elements, the data, the kind
  have tail : fnode f.s → (fnode f.d ∨ f.d = 64) → f.d ≠ f.s → (0 ≤ f.q ∧ f.q ≤ 255) → ∃ H', L0 H.next 0 false H1 (.bool (decide (mayF f.v)), H') ∧ Keep H1.next H1 H' := by
    intro m1 m2 m3 m4
    have no1 : ∀ {X : Heap}, ¬mayF f.v → L1 H.next 0 true X (.bool (decide (mayF f.v)), X) := fun hm => by
      refine L1_step ?_
      rw [if_pos rfl, decide_eq_false hm]
    by_cases c4 : (f.l.length : Int) > 4
    · refine ⟨H1, L0_step ?_, Keep.refl _ _⟩
      rw [if_neg (by simp)]
      refine ⟨_, _, _, rldc' g1 4, ?_⟩
      rw [if_pos c4]
      exact no1 fun m => by have := m.2.2.2.2.1.1; simp at this; omega
    · obtain ⟨H2, c2, k2⟩ := F39.okF h1.ies h1.ok h.ls
      have g2 : H2.get H.next = .row f.cells true := by rw [k2.get _ (by omega)]; exact g1
      by_cases ce : ∀ e ∈ f.l, mayE e.v
      · have hok : okL (f.l.map Ie.v) := ⟨by simp; omega, fun v hv => by obtain ⟨e, he, rfl⟩ := List.mem_map.1 hv; exact ce e he⟩
        by_cases cd : (f.dt.length : Int) > 64
        · refine ⟨H2, L0_step ?_, k2⟩
          rw [if_neg (by simp)]
          refine ⟨_, _, _, rldc' g1 4, ?_⟩
          rw [if_neg c4]
          refine ⟨_, _, _, rldc' g1 4, _, _, c2, ?_⟩
          rw [if_neg (by simpa using ce)]
          refine ⟨_, _, _, rldc' g2 5, ?_⟩
          rw [decide_eq_true cd]
          exact no1 fun m => by have : f.dt.length ≤ 64 := m.2.2.2.2.2.1; omega
        · obtain ⟨H3, c3, k3⟩ := F66.ok (h1.keep k2)
          refine ⟨H3, L0_step ?_, k2.trans (k3.weak k2.next)⟩
          rw [if_neg (by simp)]
          refine ⟨_, _, _, rldc' g1 4, ?_⟩
          rw [if_neg c4]
          refine ⟨_, _, _, rldc' g1 4, _, _, c2, ?_⟩
          rw [if_neg (by simpa using ce)]
          refine ⟨_, _, _, rldc' g2 5, ?_⟩
          rw [decide_eq_false cd]
          refine L1_step ?_
          rw [if_neg (by simp)]
          refine ⟨_, _, _, _, _, _, _, _, _, _, rldAll g2, _, _, c3, ?_⟩
          rw [show decide (mayF f.v) = decide (saysF f.v) from decide_eq_decide.2 ⟨fun m => m.2.2.2.2.2.2, fun m => ⟨m1, m2, m3, m4, hok, (show f.dt.length ≤ 64 by omega), m⟩⟩]
      · refine ⟨H2, L0_step ?_, k2⟩
        rw [if_neg (by simp)]
        refine ⟨_, _, _, rldc' g1 4, ?_⟩
        rw [if_neg c4]
        refine ⟨_, _, _, rldc' g1 4, _, _, c2, ?_⟩
        rw [if_pos (by simpa using ce)]
        exact no1 fun m => ce fun e he => m.2.2.2.2.1.2 _ (List.mem_map.2 ⟨e, he, rfl⟩)
  have k0 : ∀ {X}, Keep H1.next H1 X → Keep H.next H X := fun k => k1.trans (k.weak (by omega))
  have fin : fnode f.s → (fnode f.d ∨ f.d = 64) → ∃ H', (∃ (t20 : Int), ldc H1 H.next 2 = some (.int .i64 t20) ∧ ∃ (t22 : Int), ldc H1 H.next 1 = some (.int .i64 t22) ∧ if t20 = t22 then L0 H.next 0 true H1 (.bool (decide (mayF f.v)), H') else ∃ (t27 : Int), ldc H1 H.next 3 = some (.int .i64 t27) ∧ if t27 < 0 then L0 H.next 0 true H1 (.bool (decide (mayF f.v)), H') else ∃ (t32 : Int), ldc H1 H.next 3 = some (.int .i64 t32) ∧ L0 H.next 0 (decide (t32 > 255)) H1 (.bool (decide (mayF f.v)), H')) ∧ Keep H.next H H' := by
    intro m1 m2
    by_cases m3 : f.d = f.s
    · refine ⟨H1, ⟨_, rldc' g1 2, _, rldc' g1 1, ?_⟩, k1⟩
      rw [if_pos m3]
      exact bad fun m => m.2.2.1 m3
    · by_cases m4 : f.q < 0
      · refine ⟨H1, ⟨_, rldc' g1 2, _, rldc' g1 1, ?_⟩, k1⟩
        rw [if_neg m3]
        refine ⟨_, rldc' g1 3, ?_⟩
        rw [if_pos m4]
        exact bad fun m => by have : 0 ≤ f.q := m.2.2.2.1.1; omega
      · by_cases m5 : f.q > 255
        · refine ⟨H1, ⟨_, rldc' g1 2, _, rldc' g1 1, ?_⟩, k1⟩
          rw [if_neg m3]
          refine ⟨_, rldc' g1 3, ?_⟩
          rw [if_neg m4]
          refine ⟨_, rldc' g1 3, ?_⟩
          rw [decide_eq_true m5]
          exact bad fun m => by have : f.q ≤ 255 := m.2.2.2.1.2; omega
        · obtain ⟨H', z, k'⟩ := tail m1 m2 m3 (by omega)
          refine ⟨H', ⟨_, rldc' g1 2, _, rldc' g1 1, ?_⟩, k0 k'⟩
          rw [if_neg m3]
          refine ⟨_, rldc' g1 3, ?_⟩
          rw [if_neg m4]
          refine ⟨_, rldc' g1 3, ?_⟩
          rw [decide_eq_false m5]
          exact z
  by_cases m1 : fnode f.s
  · by_cases m2 : fnode f.d
    · obtain ⟨H', z, k'⟩ := fin m1 (.inl m2)
      refine ⟨H', call ⟨_, e1, _, rldc' g1 1, _, _, F64.ok _ _, ?_⟩, k'⟩
      rw [if_pos (by simpa using m1)]
      refine ⟨_, rldc' g1 2, _, _, F64.ok _ _, ?_⟩
      rw [if_pos (by simpa using m2)]
      exact z
    · by_cases m3 : f.d = 64
      · obtain ⟨H', z, k'⟩ := fin m1 (.inr m3)
        refine ⟨H', call ⟨_, e1, _, rldc' g1 1, _, _, F64.ok _ _, ?_⟩, k'⟩
        rw [if_pos (by simpa using m1)]
        refine ⟨_, rldc' g1 2, _, _, F64.ok _ _, ?_⟩
        rw [if_neg (by simpa using m2)]
        refine ⟨_, rldc' g1 2, ?_⟩
        rw [if_pos m3]
        exact z
      · refine ⟨H1, call ⟨_, e1, _, rldc' g1 1, _, _, F64.ok _ _, ?_⟩, k1⟩
        rw [if_pos (by simpa using m1)]
        refine ⟨_, rldc' g1 2, _, _, F64.ok _ _, ?_⟩
        rw [if_neg (by simpa using m2)]
        refine ⟨_, rldc' g1 2, ?_⟩
        rw [if_neg m3]
        exact bad fun m => by rcases m.2.1 with h | h; exact m2 h; exact m3 h
  · refine ⟨H1, call ⟨_, e1, _, rldc' g1 1, _, _, F64.ok _ _, ?_⟩, k1⟩
    rw [if_neg (by simpa using m1)]
    exact bad fun m => m1 m.1
end F34
theorem VF.ext_iff' (a b : VF) : a = b ↔ a.kd = b.kd ∧ a.s = b.s ∧ a.d = b.d ∧ a.q = b.q ∧ a.es = b.es ∧ a.dt = b.dt := by cases a; cases b; simp
theorem Wk.text {G H : Heap} {p n k : Nat} {L : List Bool} {a s : Option Addr} {sn sk : Nat} {xs : List Int} (h : Wk G H p L a n k) (hs : By G s sn sk xs) (hn : sn ≤ 1099511627776) (hL : L.length + 8 * xs.length ≤ 1099511627776) : ∃ a' n' k' H', Ce 62 [.pointer (some ⟨p, 0, none⟩), .slice s sn sk] H = some (.tuple #[], H') ∧ Wk G H' p (L ++ tbits xs) a' n' k' ∧ Ft p a a' H H' := by
  obtain ⟨a', n', k', H', c, w, f⟩ := F62.ok (base := 0) hs h.kp h.w (by omega) (by have := hs.ln; omega) h.hp h.ha
  refine ⟨a', n', k', H', c, ⟨w, h.kp.trans (f.keep h.kp.next h.hp h.ha), h.hp, fun b hb => ?_⟩, f⟩
  rcases f.arr b hb with e | e
  · exact h.ha b e
  · have := h.kp.next; omega
/-- A frame's bytes without their sum. -/
def bodyF (v : VF) : List Int := [197, v.kd, v.s, v.d, v.q] ++ (((encL v.es).length : Int) :: encL v.es) ++ ((v.dt.length : Int) :: v.dt)
def encF (v : VF) : List Int := crcA (bodyF v)
def encFO (v : VF) : List Int := if mayF v then encF v else []
theorem bodyF_len (v : VF) : (bodyF v).length = (encL v.es).length + v.dt.length + 7 := by unfold bodyF; simp; omega
theorem encL_len {vs : List VE} (h : okL vs) : (encL vs).length ≤ 73 := by
  unfold encL
  have := flatE_len h.2
  have := h.1
  rw [List.length_cons]; omega
theorem mayF_kd {v : VF} (h : mayF v) : 1 ≤ v.kd ∧ v.kd ≤ 5 := by
  rcases h.2.2.2.2.2.2 with m | m | m
  · have := m.1; omega
  · have := m.1; omega
  · have := m.1; omega
theorem bodyF_isB {v : VF} (h : mayF v) (hd : IsB v.dt) : IsB (bodyF v) := by
  have hk := mayF_kd h
  obtain ⟨⟨s0, s1⟩, h2, h3, ⟨q0, q1⟩, h5, h6, h7⟩ := h
  have hl := encL_len h5
  have d0 : 0 ≤ v.d ∧ v.d < 256 := by rcases h2 with ⟨a, b⟩ | h2 <;> omega
  unfold bodyF
  exact isB_app (isB_app (isB_cons (by omega) (isB_cons (by omega) (isB_cons (by omega) (isB_cons d0 (isB_cons (by omega) isB_nil))))) (isB_cons (by omega) (encL_isB h5))) (isB_cons (by omega) hd)
namespace F33
theorem l0 {G : Heap} {p fb : Nat} {xa : Option Addr} {xn xk : Nat} {c0 c1 c2 c3 c4 : Int} : ∀ (rest : List Int) (j : Nat) (L : List Bool) (a : Option Addr) (n k : Nat) (H : Heap), [c0, c1, c2, c3, c4].drop j = rest → j + rest.length = 5 → Wk G H p L a n k → L.length + 8 * rest.length ≤ 1000 →
    ∃ a' n' k' H', Wk G H' p (L ++ tbits rest) a' n' k' ∧ ∀ r, L0 fb 0 xa xn xk p 0 c0 c1 c2 c3 c4 5 H' r → L0 fb 0 xa xn xk p 0 c0 c1 c2 c3 c4 (j : Int) H r := by
  intro rest
  induction rest with
  | nil =>
    intro j L a n k H hd hj h hL
    simp only [List.length_nil] at hj
    have : j = 5 := by omega
    subst this
    exact ⟨a, n, k, H, by simpa [tbits] using h, fun r z => z⟩
  | cons x rest ih =>
    intro j L a n k H hd hj h hL
    simp only [List.length_cons] at hj hL
    obtain ⟨a2, n2, k2, H2, cc, w2, f2⟩ := h.put (BitVec.ofInt 64 x) 8 (by omega) (by omega)
    obtain ⟨a3, n3, k3, H3, w3, z⟩ := ih (j + 1) _ a2 n2 k2 H2 (drop_next hd) (by omega) w2 (by rw [List.length_append, seg_len]; omega)
    refine ⟨a3, n3, k3, H3, ?_, fun r hr => L0_step ?_⟩
    · rw [show x :: rest = [x] ++ rest from rfl, tbits_append, tbits_one, ← List.append_assoc]; exact w3
    · rw [if_pos (by omega)]
      refine ⟨x, ?_, H2, by rw [nb_wrap]; exact cc, ?_⟩
      · have hx := drop_get hd
        unfold pag
        rw [if_pos (by omega), Int.toNat_natCast]
        have : ([c0, c1, c2, c3, c4].map (Value.int .i64))[j]? = some (.int .i64 x) := by rw [List.getElem?_map, hx]; rfl
        exact this
      · rw [i64 (by omega) (by omega)]
        exact_mod_cast z r hr
theorem ok {H : Heap} {f : Fm} (h : FmOk H f) (hd : IsB f.dt) : ∃ a' k' H', Ce 33 [f.agg] H = some (.tuple #[.slice a' (encFO f.v).length k', .int .i64 (if mayF f.v then 0 else 1)], H') ∧ OwnI .u8 H.next H' a' (encFO f.v).length k' (encFO f.v) ∧ Keep H.next H H' := by
  obtain ⟨H1, e1, n1, g1, k1⟩ := one H f.cells
  obtain ⟨H2, c2, k2⟩ := F34.ok (h.keep k1)
  have k02 := k1.trans (k2.weak k1.next)
  have n2 := k2.next
  unfold encFO
  by_cases hm : mayF f.v
  · rw [if_pos hm, if_pos hm]
    have g2 : H2.get H.next = .row f.cells true := by rw [k2.get _ (by omega)]; exact g1
    have h2 := (h.keep k1).keep k2
    obtain ⟨a3, k3', H3, c3, o3, k3⟩ := F16.ok h2.ies h2.ok h2.ls
    have hok : okL (f.l.map Ie.v) := hm.2.2.2.2.1
    have en : encO (f.l.map Ie.v) = encL (f.l.map Ie.v) := if_pos hok
    rw [if_pos hok, en] at c3
    rw [en] at o3
    have hxl := encL_len hok
    have hdl : f.dt.length ≤ 64 := hm.2.2.2.2.2.1
    have n3 := k3.next
    have g3 : H3.get H.next = .row f.cells true := by rw [k3.get _ (by omega)]; exact g2
    have k03 := k02.trans (k3.weak k02.next)
    have w0 := WR.mk0 H3
    have k4 : Keep H3.next H3 (H3.push (.row [.slice none 0 0, .int .i64 0] true)) := Keep.push _ (Nat.le_refl _)
    generalize E4 : H3.push (.row [.slice none 0 0, .int .i64 0] true) = H4 at w0 k4
    have wk : Wk H3 H4 H3.next [] none 0 0 := ⟨w0, k4, Nat.le_refl _, fun b hb => absurd hb In1.none⟩
    have n4 := k4.next
    have g4 : H4.get H.next = .row f.cells true := by rw [k4.get _ (by omega)]; exact g3
    obtain ⟨a5, n5, k5, H5, w5, z5⟩ := l0 (fb := H.next) (xa := a3) (xn := (encL (f.l.map Ie.v)).length) (xk := k3') (c0 := 197) (c1 := f.kd) (c2 := f.s) (c3 := f.d) (c4 := f.q) [197, f.kd, f.s, f.d, f.q] 0 [] none 0 0 H4 rfl rfl wk (by simp)
    have l5 : ([] ++ tbits [197, f.kd, f.s, f.d, f.q]).length = 40 := by rw [List.nil_append, tbits_len]; rfl
    have g5 : H5.get H.next = .row f.cells true := by rw [w5.kp.get _ (by omega)]; exact g3
    obtain ⟨a6, n6, k6, H6, c6, w6, f6⟩ := w5.put (BitVec.ofInt 64 ((encL (f.l.map Ie.v)).length : Int)) 8 (by omega) (by omega)
    have l6 : ([] ++ tbits [197, f.kd, f.s, f.d, f.q] ++ bitsN (BitVec.ofInt 64 ((encL (f.l.map Ie.v)).length : Int)) 8).length = 48 := by rw [List.length_append, l5, seg_len]
    obtain ⟨a7, n7, k7, H7, c7, w7, f7⟩ := w6.text o3.sl (by omega) (by omega)
    have l7 : ([] ++ tbits [197, f.kd, f.s, f.d, f.q] ++ bitsN (BitVec.ofInt 64 ((encL (f.l.map Ie.v)).length : Int)) 8 ++ tbits (encL (f.l.map Ie.v))).length ≤ 1000 := by rw [List.length_append, l6, tbits_len]; omega
    obtain ⟨a8, n8, k8, H8, c8, w8, f8⟩ := w7.put (BitVec.ofInt 64 (f.dt.length : Int)) 8 (by omega) (by omega)
    obtain ⟨a9, n9, k9, H9, c9, w9, f9⟩ := w8.text (h2.keep k3).dts (by omega) (by rw [List.length_append, seg_len]; omega)
    have eL : [] ++ tbits [197, f.kd, f.s, f.d, f.q] ++ bitsN (BitVec.ofInt 64 ((encL (f.l.map Ie.v)).length : Int)) 8 ++ tbits (encL (f.l.map Ie.v)) ++ bitsN (BitVec.ofInt 64 (f.dt.length : Int)) 8 ++ tbits f.dt = tbits (bodyF f.v) := by
      unfold bodyF
      rw [show ((f.v.dt.length : Int) :: f.v.dt) = [(f.dt.length : Int)] ++ f.dt from rfl, show (((encL f.v.es).length : Int) :: encL f.v.es) = [((encL (f.l.map Ie.v)).length : Int)] ++ encL (f.l.map Ie.v) from rfl, tbits_append, tbits_append, tbits_append, tbits_append, tbits_one, tbits_one]
      simp
    rw [eL] at w9
    have hbl : (bodyF f.v).length = (encL (f.l.map Ie.v)).length + f.dt.length + 7 := bodyF_len f.v
    obtain ⟨a10, k10', H10, c10, o10, k10⟩ := F42.ok w9.w (by rw [tbits_len]; omega)
    rw [pack_tbits (bodyF_isB hm hd)] at c10 o10
    obtain ⟨a11, k11', H11, c11, o11, k11⟩ := F63.ok (show By H10 a10 (bodyF f.v).length k10' (bodyF f.v) from o10.sl) (by omega)
    have nn9 := w9.kp.next
    have n10 := k10.next
    have el : (encF f.v).length = (bodyF f.v).length + 2 := crcA_len _
    rw [el]
    refine ⟨a11, k11', H11, call ⟨_, e1, _, _, _, _, _, _, _, _, _, _, rldAll g1, _, _, c2, ?_⟩, o11.weak (by omega), ((k03.trans (w9.kp.weak k03.next)).trans (k10.weak (by omega))).trans (k11.weak (by omega))⟩
    rw [if_pos (by simpa using hm)]
    refine ⟨_, _, _, rldc' g2 4, _, _, _, _, _, c3, ?_⟩
    rw [if_pos rfl]
    refine ⟨_, E4.symm, _, rldc' g4 0, _, rldc' g4 1, _, rldc' g4 2, _, rldc' g4 3, z5 _ (L0_step ?_)⟩
    rw [if_neg (by omega)]
    refine ⟨_, _, _, rldc' g5 5, L1_step ?_⟩
    rw [if_pos (by omega)]
    refine ⟨_, _, _, rfl, H6, by rw [nb_wrap]; exact c6, H7, c7, L1_step ?_⟩
    rw [show IntKind.wrap .i64 (0 + 1) = 1 from rfl, if_pos (by omega)]
    refine ⟨_, _, _, rfl, H8, by rw [nb_wrap]; exact c8, H9, c9, L1_step ?_⟩
    rw [show IntKind.wrap .i64 (1 + 1) = 2 from rfl, if_neg (by omega)]
    exact ⟨_, _, _, _, c10, _, _, _, _, c11, rfl⟩
  · rw [if_neg hm, if_neg hm]
    refine ⟨none, 0, H2, call ⟨_, e1, _, _, _, _, _, _, _, _, _, _, rldAll g1, _, _, c2, ?_⟩, OwnI.nil, k02⟩
    rw [if_neg (by simpa using hm)]
    rfl
end F33
def frV (ys : List Int) (l : List VE) : VF := ⟨ys.getD 1 0, ys.getD 2 0, ys.getD 3 0, ys.getD 4 0, l, rfT ys (7 + (ys.getD 5 0).toNat) (ys.getD (6 + (ys.getD 5 0).toNat) 0).toNat⟩
def decY (ys : List Int) : VF × Int :=
  if ¬(ys.getD 0 0 = 197 ∧ 7 + (ys.getD 5 0).toNat + (ys.getD (6 + (ys.getD 5 0).toNat) 0).toNat = ys.length) then (vf0, 3)
  else if (decL (rfT ys 6 (ys.getD 5 0).toNat)).2 ≠ 0 then (vf0, (decL (rfT ys 6 (ys.getD 5 0).toNat)).2)
  else if mayF (frV ys (decL (rfT ys 6 (ys.getD 5 0).toNat)).1) then (frV ys (decL (rfT ys 6 (ys.getD 5 0).toNat)).1, 0) else (vf0, 3)
def decF (bs : List Int) : VF × Int := if bs.length < 9 then (vf0, 2) else if goodB bs = false then (vf0, 4) else decY (bs.take (bs.length - 2))
namespace F59
theorem ok {H : Heap} {p : Nat} {a : Option Addr} {bs : List Int} {j : Nat} (hb : IsB bs) (h : RB H p a bs j) : ∃ a2 H', Ce 59 [.pointer (some ⟨p, 0, none⟩)] H = some (.int .i64 (bs.getD j 0), H') ∧ RB H' p a2 bs (j + 1) ∧ Fd p a a2 H H' := by
  obtain ⟨a2, H', c, r, f⟩ := RB.take h (w := 1) (by omega) (by omega)
  obtain ⟨e, h0, h1⟩ := stV_one hb j
  rw [e] at c
  refine ⟨a2, H', F59.call ⟨_, _, c, ?_⟩, r, f⟩
  rw [i64 (by omega) (by omega)]
end F59
namespace F30
/-- What it comes to: a frame, an error. -/
def Post (H : Heap) (r : VF × Int) (L : Value × Heap → Prop) : Prop := ∃ (f : Fm) (H' : Heap), L (.tuple #[f.agg, .int .i64 r.2], H') ∧ f.v = r.1 ∧ FmOk H' f ∧ Keep H.next H H'
theorem Post.imp {H : Heap} {r : VF × Int} {L M : Value × Heap → Prop} (h : Post H r L) (i : ∀ x, L x → M x) : Post H r M := by
  obtain ⟨f, H', z, hz⟩ := h
  exact ⟨f, H', i _ z, hz⟩
theorem zero {H0 H : Heap} {p : Nat} {us : List Value} {er : Int} {L : Value × Heap → Prop} (g : H.get p = .row us true) (hl : us.length = 6) (hp : p < H.next) (hp0 : H0.next ≤ p) (k : Keep H0.next H0 H)
    (i : ∀ H', stc H p 0 fm0.cells = some H' → ldAll H' p 0 fm0.cells → L (.tuple #[fm0.agg, .int .i64 er], H')) : Post H0 (vf0, er) L := by
  obtain ⟨H', s, g', c, n⟩ := rowAll (us := fm0.cells) g hp (by rw [hl]; rfl)
  exact ⟨fm0, H', i H' s (rldAll g'), rfl, FmOk.zero _, k.trans (c.kp k.next hp0)⟩
theorem l0 {H0 G : Heap} {pr q : Nat} {ea da : Option Addr} {ek dk : Nat} {xs dt : List Int} {c1 c2 c3 c4 : Int} (kG : Keep H0.next H0 G) (hpr : H0.next ≤ pr) (hq : H0.next ≤ q) (hne : pr ≠ q) (hprl : pr < G.next) (hql : q < G.next) {us : List Value} (gr : G.get pr = .row us true) (hl : us.length = 6)
    (gq : G.get q = .row [.int .i64 c1, .int .i64 c2, .int .i64 c3, .int .i64 c4, .slice none 0 0, .slice da dt.length dk] true) (hx : By G ea xs.length ek xs) (hxb : IsB xs) (hxl : xs.length ≤ 1000000) (hd : By G da dt.length dk dt) (hdl : dt.length ≤ 1000000) (hdq : ∀ b, In1 da b → b ≠ pr ∧ b ≠ q) :
    Post H0 (if (decL xs).2 ≠ 0 then (vf0, (decL xs).2) else if mayF ⟨c1, c2, c3, c4, (decL xs).1, dt⟩ then (⟨c1, c2, c3, c4, (decL xs).1, dt⟩, 0) else (vf0, 3)) (L0 pr 0 q 0 ea xs.length ek false G) := by
  obtain ⟨l, a2, k2', H2, cc2, v2, s2, ok2, k2, fa, fe⟩ := F23.ok hx hxb hxl
  have n2 := k2.next
  have nG := kG.next
  have gq2 : H2.get q = .row [.int .i64 c1, .int .i64 c2, .int .i64 c3, .int .i64 c4, .slice none 0 0, .slice da dt.length dk] true := by rw [k2.get _ hql]; exact gq
  have gr2 : H2.get pr = .row us true := by rw [k2.get _ hprl]; exact gr
  obtain ⟨H3, s3, g3, f3, n3⟩ := rowSet (i := 4) (.slice a2 l.length k2') gq2 (by omega) (by simp)
  have gr3 : H3.get pr = .row us true := f3.at (by omega) hne gr2
  have k03 : Keep H0.next H0 H3 := (kG.trans (k2.weak nG)).trans (f3.kp (by omega) hq)
  rw [← v2]
  by_cases he : (decL xs).2 = 0
  · rw [if_neg (fun c => c he)]
    rw [he] at cc2
    have hf3 : FmOk H3 ⟨c1, c2, c3, c4, l, a2, k2', dt, da, dk⟩ := ⟨s2.chg f3 fun b hb h => by have := fa b hb; have h : b = q := h; omega, fun e hel => ⟨(ok2 e hel).s.chg f3 fun b hb h => by have := fe e hel b hb; have h : b = q := h; omega, (ok2 e hel).sm⟩, Sl.chg (hd.keep k2) f3 fun b hb h => (hdq b hb).2 h, by
      have h1 : l.length = (decL xs).1.length := by rw [← v2, List.length_map]
      have := decL_len xs
      show l.length ≤ _
      omega, by show dt.length ≤ _; omega⟩
    obtain ⟨H4, c4', k4⟩ := F34.ok hf3
    have n4 := k4.next
    have g4 : H4.get q = .row (Fm.cells ⟨c1, c2, c3, c4, l, a2, k2', dt, da, dk⟩) true := by rw [k4.get _ (by omega)]; exact g3
    have gr4 : H4.get pr = .row us true := by rw [k4.get _ (by omega)]; exact gr3
    have k04 := k03.trans (k4.weak k03.next)
    by_cases hm : mayF (Fm.v ⟨c1, c2, c3, c4, l, a2, k2', dt, da, dk⟩)
    · rw [if_pos hm]
      obtain ⟨H5, s5, g5, f5, n5⟩ := rowAll (us := Fm.cells ⟨c1, c2, c3, c4, l, a2, k2', dt, da, dk⟩) gr4 (by omega) (by rw [hl]; rfl)
      have hf4 := hf3.keep k4
      refine ⟨⟨c1, c2, c3, c4, l, a2, k2', dt, da, dk⟩, H5, L0_step ?_, rfl, ⟨hf4.ies.chg f5 fun b hb h => by have := fa b hb; have h : b = pr := h; omega, fun e hel => ⟨(hf4.ok e hel).s.chg f5 fun b hb h => by have := fe e hel b hb; have h : b = pr := h; omega, (hf4.ok e hel).sm⟩, Sl.chg hf4.dts f5 fun b hb h => (hdq b hb).1 h, hf4.ls, hf4.ds⟩, k04.trans (f5.kp k04.next hpr)⟩
      rw [if_neg (by simp)]
      refine ⟨_, _, _, _, _, cc2, H3, s3, ?_⟩
      rw [if_pos rfl]
      refine ⟨_, _, _, _, _, _, _, _, _, _, rldAll g3, _, _, c4', ?_⟩
      rw [if_pos (by simpa using hm)]
      exact ⟨_, _, _, _, _, _, _, _, _, _, rldAll g4, H5, s5, _, _, _, _, _, _, _, _, _, _, rldAll g5, rfl⟩
    · rw [if_neg hm]
      refine zero gr4 hl (by omega) hpr k04 fun H' s' l' => L0_step ?_
      rw [if_neg (by simp)]
      refine ⟨_, _, _, _, _, cc2, H3, s3, ?_⟩
      rw [if_pos rfl]
      refine ⟨_, _, _, _, _, _, _, _, _, _, rldAll g3, _, _, c4', ?_⟩
      rw [if_neg (by simpa using hm)]
      exact ⟨H', s', _, _, _, _, _, _, _, _, _, _, l', rfl⟩
  · rw [if_pos he]
    refine zero gr3 hl (by omega) hpr k03 fun H' s' l' => L0_step ?_
    rw [if_neg (by simp)]
    refine ⟨_, _, _, _, _, cc2, H3, s3, ?_⟩
    rw [if_neg he]
    exact ⟨H', s', _, _, _, _, _, _, _, _, _, _, l', rfl⟩
theorem l0t {H0 G : Heap} {pr q : Nat} {ea : Option Addr} {en ek : Nat} (kG : Keep H0.next H0 G) (hpr : H0.next ≤ pr) (hprl : pr < G.next) {us : List Value} (gr : G.get pr = .row us true) (hl : us.length = 6) : Post H0 (vf0, 3) (L0 pr 0 q 0 ea en ek true G) := by
  refine zero gr hl hprl hpr kG fun H' s' l' => L0_step ?_
  rw [if_pos rfl]
  exact ⟨H', s', _, _, _, _, _, _, _, _, _, _, l', rfl⟩
theorem rfT_isB {bs : List Int} (hb : IsB bs) (j m : Nat) : IsB (rfT bs j m) := by
  unfold rfT; split
  · exact fun x hx => hb x (List.mem_of_mem_drop (List.mem_of_mem_take hx))
  · exact isB_nil
theorem rfT_len (bs : List Int) (j m : Nat) : (rfT bs j m).length ≤ bs.length := by
  unfold rfT; split
  · simp; omega
  · simp
theorem ok {H : Heap} {s : Option Addr} {sn sk : Nat} {bs : List Int} (hs : By H s sn sk bs) (hb : IsB bs) (hbl : bs.length ≤ 1000000) : Post H (decF bs) (fun r => Ce 30 [.slice s sn sk] H = some r) := by
  have hl := hs.ln
  obtain ⟨H1, e1, m1, g1, k1⟩ := one H fm0.cells
  unfold decF
  by_cases b1 : bs.length < 9
  · rw [if_pos b1]
    refine zero g1 rfl (by omega) (Nat.le_refl _) k1 fun H' s' l' => call ⟨_, e1, ?_⟩
    rw [if_pos (by omega)]
    exact ⟨H', s', _, _, _, _, _, _, _, _, _, _, l', rfl⟩
  rw [if_neg b1]
  obtain ⟨H3, c3, k3⟩ := F58.ok (hs.keep k1) (by omega)
  have n3 := k3.next
  have g3 : H3.get H.next = .row fm0.cells true := by rw [k3.get _ (by omega)]; exact g1
  have k03 := k1.trans (k3.weak k1.next)
  cases hgd : goodB bs with
  | false =>
    rw [hgd] at c3
    rw [if_pos rfl]
    refine zero g3 rfl (by omega) (Nat.le_refl _) k03 fun H' s' l' => call ⟨_, e1, ?_⟩
    rw [if_neg (by omega)]
    refine ⟨_, _, c3, ?_⟩
    rw [if_neg (by simp)]
    exact ⟨H', s', _, _, _, _, _, _, _, _, _, _, l', rfl⟩
  | true =>
    rw [hgd] at c3
    rw [if_neg (by simp)]
    have h3 : By H3 s sn sk bs := (hs.keep k1).keep k3
    obtain ⟨a4, k4', p4, s4⟩ := Ints.part h3 none (some ((sn - 2 : Nat) : Int)) 0 (sn - 2) (.inl ⟨rfl, rfl⟩) (.inr rfl) (by omega) (by omega)
    simp only [List.drop_zero, Nat.sub_zero] at p4 s4
    have hyb : IsB (bs.take (sn - 2)) := fun x hx => hb x (List.mem_of_mem_take hx)
    have hyl : (bs.take (sn - 2)).length = sn - 2 := by simp; omega
    rw [show bs.length - 2 = sn - 2 by omega]
    obtain ⟨p, a5, H5, c5, r5, hp5, ha5, k5⟩ := F48.ok s4 hyb (by omega)
    generalize hys : bs.take (sn - 2) = ys at *
    have n5 := k5.next
    have g5 : H5.get H.next = .row fm0.cells true := by rw [k5.get _ (by omega)]; exact g3
    have k05 := k03.trans (k5.weak k03.next)
    have r5' : RB H5 p a5 ys 0 := by
      unfold RB stR stE
      rw [if_pos (by omega), if_pos (by omega), List.drop_zero, ← unpack_tbits hyb]
      exact r5
    obtain ⟨a6, H6, c6, r6, f6⟩ := F59.ok hyb r5'
    obtain ⟨a7, H7, c7, r7, f7⟩ := F59.ok hyb r6
    obtain ⟨a8, H8, c8, r8, f8⟩ := F59.ok hyb r7
    obtain ⟨a9, H9, c9, r9, f9⟩ := F59.ok hyb r8
    obtain ⟨a10, H10, c10, r10, f10⟩ := F59.ok hyb r9
    have fA := (((f6.trans f7).trans f8).trans f9).trans f10
    have nA := fA.chg.next
    have pl := RM.lt r5'
    have g10 : H10.get H.next = .row fm0.cells true := by rw [fA.at (by omega) (by omega)]; exact g5
    have k010 := k05.trans (fA.keep k05.next (by omega))
    obtain ⟨H11, s11, g11, k11, n11⟩ := fill H10 fm0.cells (Fm.cells ⟨ys.getD 1 0, ys.getD 2 0, ys.getD 3 0, ys.getD 4 0, [], none, 0, [], none, 0⟩) rfl
    have r11 := r10.new k11
    have k011 := k010.trans (k11.weak k010.next)
    obtain ⟨a12, H12, c12, r12, f12⟩ := F59.ok hyb r11
    obtain ⟨_, y0, y1⟩ := stV_one hyb 5
    have e5 : (((ys.getD 5 0).toNat : Nat) : Int) = ys.getD 5 0 := by omega
    obtain ⟨a13, ea, ek, H13, c13, o13, r13, f13⟩ := r12.text hyb (ys.getD 5 0).toNat
    rw [e5] at c13
    obtain ⟨a14, H14, c14, r14, f14⟩ := F59.ok hyb r13
    rw [show 0 + 1 + 1 + 1 + 1 + 1 + 1 + (ys.getD 5 0).toNat = 6 + (ys.getD 5 0).toNat by omega] at c14 r14
    obtain ⟨_, z0, z1⟩ := stV_one hyb (6 + (ys.getD 5 0).toNat)
    have e6 : (((ys.getD (6 + (ys.getD 5 0).toNat) 0).toNat : Nat) : Int) = ys.getD (6 + (ys.getD 5 0).toNat) 0 := by omega
    obtain ⟨a15, da, dk, H15, c15, o15, r15, f15⟩ := r14.text hyb (ys.getD (6 + (ys.getD 5 0).toNat) 0).toNat
    rw [e6] at c15
    have n12 := f12.chg.next
    have n13 := f13.chg.next
    have n14 := f14.chg.next
    have n15 := f15.chg.next
    have fB := ((f12.trans f13).trans f14).trans f15
    have g15r : H15.get H.next = .row fm0.cells true := by rw [fB.at (by omega) (by omega), k11.get _ (by omega)]; exact g10
    have g15q : H15.get H10.next = .row (Fm.cells ⟨ys.getD 1 0, ys.getD 2 0, ys.getD 3 0, ys.getD 4 0, [], none, 0, [], none, 0⟩) true := by rw [fB.at (by omega) (by omega)]; exact g11
    have k015 := k011.trans (fB.keep k011.next (by omega))
    rw [show 0 + 1 + 1 + 1 + 1 + 1 + 1 = 6 by omega] at c13 o13
    rw [show 6 + (ys.getD 5 0).toNat + 1 = 7 + (ys.getD 5 0).toNat by omega] at c15 o15 r15
    have hst : ∀ j m, stT ys j m = rfT ys j m := fun _ _ => rfl
    rw [hst] at c13 o13 c15 o15
    obtain ⟨H16, s16, g16, f16, n16⟩ := rowSet (i := 5) (.slice da (rfT ys (7 + (ys.getD 5 0).toNat) (ys.getD (6 + (ys.getD 5 0).toNat) 0).toNat).length dk) g15q (by omega) (by simp)
    have g16r : H16.get H.next = .row fm0.cells true := f16.at (by omega) (by omega) g15r
    have k016 := k015.trans (f16.kp k015.next (by omega))
    have al : ∀ b, In1 a15 b → b < H10.next := fun b hb => RM.alt r10 b (fB.arr b hb)
    have r16 : RB H16 p a15 ys (7 + (ys.getD 5 0).toNat + (ys.getD (6 + (ys.getD 5 0).toNat) 0).toNat) := r15.row f16 (by have := k05.next; omega) fun b hb => by have := al b hb; omega
    have c17 := r16.end_
    have hxs : By H16 ea (rfT ys 6 (ys.getD 5 0).toNat).length ek (rfT ys 6 (ys.getD 5 0).toNat) := by
      have q1 : ∀ b, In1 ea b → H12.next ≤ b := fun b hb => (o13.lt hb).1
      have t14 := o13.sl.chg f14.chg fun b hb h => by have := q1 b hb; have h : b = p := h; omega
      have t15 := t14.chg f15.chg fun b hb h => by have := q1 b hb; have h : b = p := h; omega
      exact t15.chg f16 fun b hb h => by have := q1 b hb; have h : b = H10.next := h; omega
    have hds : By H16 da (rfT ys (7 + (ys.getD 5 0).toNat) (ys.getD (6 + (ys.getD 5 0).toNat) 0).toNat).length dk (rfT ys (7 + (ys.getD 5 0).toNat) (ys.getD (6 + (ys.getD 5 0).toNat) 0).toNat) :=
      o15.sl.chg f16 fun b hb h => by have := (o15.lt hb).1; have h : b = H10.next := h; omega
    have start : ∀ r, (if ys.getD 0 0 = 197 then (∃ (t49 : Int) (H_17 : Heap), Ce 52 [.pointer (some ⟨p, 0, none⟩)] H16 = some (.int .i64 t49, H_17) ∧ L0 H.next 0 H10.next 0 ea (rfT ys 6 (ys.getD 5 0).toNat).length ek (!(t49 == 0)) H_17 r) else L0 H.next 0 H10.next 0 ea (rfT ys 6 (ys.getD 5 0).toNat).length ek true H16 r) → Ce 30 [.slice s sn sk] H = some r := by
      intro r z
      refine call ⟨_, e1, ?_⟩
      rw [if_neg (by omega)]
      refine ⟨_, _, c3, ?_⟩
      rw [if_pos rfl]
      refine ⟨_, _, _, ?_, _, _, c5, _, _, c6, _, _, c7, _, _, c8, _, _, c9, _, _, c10, _, rfl, H11, s11, _, _, c12, _, _, _, _, c13, _, _, c14, _, _, _, _, c15, H16, s16, z⟩
      rw [i64 (by omega) (by omega), show ((sn : Int) - 2) = ((sn - 2 : Nat) : Int) by omega]
      exact p4
    unfold decY
    by_cases q1 : ys.getD 0 0 = 197
    · by_cases q2 : 7 + (ys.getD 5 0).toNat + (ys.getD (6 + (ys.getD 5 0).toNat) 0).toNat = ys.length
      · rw [if_neg (fun c => c ⟨q1, q2⟩)]
        rw [if_neg (by omega), if_neg (by omega)] at c17
        have ll := rfT_len ys 6 (ys.getD 5 0).toNat
        have ld := rfT_len ys (7 + (ys.getD 5 0).toNat) (ys.getD (6 + (ys.getD 5 0).toNat) 0).toNat
        refine Post.imp (l0 (H0 := H) (G := H16) (pr := H.next) (q := H10.next) k016 (Nat.le_refl _) (by omega) (by omega) (by omega) (by omega) g16r rfl g16 hxs (rfT_isB hyb _ _) (by omega) hds (by omega) fun b hb => by have := (o15.lt hb).1; omega) fun r z => start r ?_
        rw [if_pos q1]
        exact ⟨_, _, c17, z⟩
      · rw [if_pos (fun c => q2 c.2)]
        refine Post.imp (l0t (H0 := H) (G := H16) (pr := H.next) (q := H10.next) (ea := ea) (en := (rfT ys 6 (ys.getD 5 0).toNat).length) (ek := ek) k016 (Nat.le_refl _) (by omega) g16r rfl) fun r z => start r ?_
        rw [if_pos q1]
        refine ⟨_, _, c17, ?_⟩
        have : (!((if ys.length < 7 + (ys.getD 5 0).toNat + (ys.getD (6 + (ys.getD 5 0).toNat) 0).toNat then (2 : Int) else if 7 + (ys.getD 5 0).toNat + (ys.getD (6 + (ys.getD 5 0).toNat) 0).toNat < ys.length then 3 else 0) == 0)) = true := by
          by_cases w1 : ys.length < 7 + (ys.getD 5 0).toNat + (ys.getD (6 + (ys.getD 5 0).toNat) 0).toNat
          · rw [if_pos w1]; rfl
          · rw [if_neg w1, if_pos (by omega)]; rfl
        rw [this]
        exact z
    · rw [if_pos (fun c => q1 c.1)]
      refine Post.imp (l0t (H0 := H) (G := H16) (pr := H.next) (q := H10.next) (ea := ea) (en := (rfT ys 6 (ys.getD 5 0).toNat).length) (ek := ek) k016 (Nat.le_refl _) (by omega) g16r rfl) fun r z => start r ?_
      rw [if_neg q1]
      exact z
end F30
theorem m16 : ∀ i : _root_.Fin 64, (65535#64).getLsbD i.val = decide (i.val < 16) := by decide
theorem low16 (t : Int) : beV (beB t 2) = t % 65536 := by
  unfold beV
  rw [tbits_beB]
  have e : valOf (bitsN (BitVec.ofInt 64 t) (8 * 2)) = BitVec.ofInt 64 t &&& 65535#64 := by
    apply BitVec.eq_of_getLsbD_eq
    intro i hi
    rw [valOf_bitsN_get _ _ hi, BitVec.getLsbD_and, m16 ⟨i, hi⟩, Bool.and_comm]
  rw [e]
  have h2 : (BitVec.ofInt 64 t &&& 65535#64).toNat = (BitVec.ofInt 64 t).toNat % 65536 := by
    rw [BitVec.toNat_and]
    exact Nat.and_two_pow_sub_one_eq_mod _ 16
  show (((BitVec.ofInt 64 t &&& 65535#64).toNat : Nat) : Int) = _
  rw [h2, BitVec.toNat_ofInt]
  omega
theorem tick_eq (x : Int) : IntKind.wrap .i64 (IntKind.wrap .i16 x) = (x + 32768) % 65536 - 32768 := by
  have e : IntKind.wrap .i16 x = (x + 32768) % 65536 - 32768 := by
    unfold IntKind.wrap
    simp [IntKind.bits, IntKind.signed]
    omega
  rw [e, i64 (by omega) (by omega)]
theorem tick_beB {t : Int} (h : tickP t) : IntKind.wrap .i64 (IntKind.wrap .i16 (beV (beB t 2))) = t := by
  rw [low16, tick_eq]
  have := h.1; have := h.2
  omega
theorem tick_ok (x : Int) : tickP (IntKind.wrap .i64 (IntKind.wrap .i16 x)) := by
  rw [tick_eq]; unfold tickP; omega
theorem beB_tick {ys : List Int} (hl : ys.length = 2) (hb : IsB ys) : beB (IntKind.wrap .i64 (IntKind.wrap .i16 (beV ys))) 2 = ys := by
  have h1 := beB_beV (k := 2) (beB_len (IntKind.wrap .i64 (IntKind.wrap .i16 (beV ys))) 2) (by omega) (beB_isB _ _)
  have h2 := beB_beV hl (by omega) hb
  have h3 := low16 (beV ys)
  rw [h2] at h3
  rw [← h1, low16, tick_eq]
  have : (((beV ys + 32768) % 65536 - 32768) % 65536) = beV ys % 65536 := by omega
  rw [this, ← h3, h2]
section
variable {bs : List Int}
theorem gd {i : Nat} {x : Int} {r : List Int} (h : bs.drop i = x :: r) : bs.getD i 0 = x := by rw [List.getD, drop_get h]; rfl
theorem drop_len {i : Nat} {r : List Int} (h : bs.drop i = r) (hi : i ≤ bs.length) : bs.length = i + r.length := by rw [← h, List.length_drop]; omega
theorem take_front {j m : Nat} {a b : List Int} (h : bs.drop j = a ++ b) (hm : a.length = m) : (bs.drop j).take m = a := by rw [h, List.take_left' hm]
theorem drop_app {j : Nat} {a b : List Int} (h : bs.drop j = a ++ b) : bs.drop (j + a.length) = b := by rw [← List.drop_drop, h, List.drop_left]
theorem decI_enc {v : VE} (hm : mayE v) {j : Nat} {r : List Int} (hj : j ≤ bs.length) (h : bs.drop j = encE v ++ r) : decI bs j = .ok (v, j + (encE v).length) := by
  have hl := drop_len h hj
  rw [List.length_append] at hl
  have h0 : bs.drop j = v.kd :: (putE v ++ r) := h
  have g0 : bs.getD j 0 = v.kd := gd h0
  have h1 : bs.drop (j + 1) = putE v ++ r := drop_next h0
  have hlen : (encE v).length = 1 + (putE v).length := by unfold encE; simp; omega
  have key : ∀ (n : Nat) (ds : List Int), putE v = (n : Int) :: ds → ds.length = n → rightP v.kd n → (1 ≤ v.kd ∧ v.kd ≤ 4) → mkV bs v.kd n (j + 2) = v → decI bs j = .ok (v, j + (encE v).length) := by
    intro n ds hp hn hr hk hv
    have hpl : (putE v).length = 1 + n := by rw [hp]; simp; omega
    have g1 : bs.getD (j + 1) 0 = (n : Int) := gd (r := ds ++ r) (by rw [h1, hp]; rfl)
    unfold decI
    rw [if_neg (by omega), g0, if_neg (fun c => c hk), if_neg (by omega), g1, if_neg (fun c => c hr), Int.toNat_natCast, if_neg (by omega), hv]
    congr 2
    omega
  rcases mayE_kd hm with ⟨k1, k2, k3⟩ | ⟨k1, k2⟩ | ⟨k1, k2⟩
  · have hm1 := (mayE_1 k1).1 hm
    have hp : putE v = 6 :: (beB v.asn 5 ++ [v.rk]) := by unfold putE; rw [if_pos k1]
    have hpl : (putE v).length = 7 := by rw [hp]; simp [beB_len]
    have h2 : bs.drop (j + 2) = beB v.asn 5 ++ ([v.rk] ++ r) := by
      have : bs.drop (j + 1) = 6 :: (beB v.asn 5 ++ [v.rk] ++ r) := by rw [h1, hp]; rfl
      have := drop_next this
      rw [this]; simp
    have h7 : bs.drop (j + 2 + 5) = v.rk :: r := by
      have := drop_app h2
      rw [beB_len] at this
      exact this
    refine key 6 _ hp (by simp [beB_len]) (by unfold rightP; rw [if_pos k1]; rfl) (by omega) ?_
    unfold mkV stV
    rw [if_pos k1, if_pos (by omega), take_front h2 (beB_len _ _), beV_beB (by omega) k2.1 (by have := k2.2; show v.asn < 2 ^ 40; omega), gd h7, i64 (by have := k2.1; omega) (by have := k2.2; omega), VE.ext_iff']
    exact ⟨rfl, rfl, rfl, hm1.2.2.1.symm, hm1.2.2.2.symm⟩
  · have hm2 := (mayE_2 k1).1 hm
    have hp : putE v = 2 :: beB v.tk 2 := by unfold putE; rw [if_neg (by omega), if_pos k1]
    have hpl : (putE v).length = 3 := by rw [hp]; simp [beB_len]
    have h2 : bs.drop (j + 2) = beB v.tk 2 ++ r := by
      have : bs.drop (j + 1) = 2 :: (beB v.tk 2 ++ r) := by rw [h1, hp]; rfl
      exact drop_next this
    refine key 2 _ hp (by simp [beB_len]) (by unfold rightP; rw [if_neg (by omega), if_pos k1]; rfl) (by omega) ?_
    unfold mkV stV
    rw [if_neg (by omega), if_pos k1, if_pos (by omega), take_front h2 (beB_len _ _), tick_beB k2, VE.ext_iff']
    exact ⟨rfl, hm2.2.1.symm, hm2.2.2.1.symm, rfl, hm2.2.2.2.symm⟩
  · have hm3 := (mayE_3 k1).1 hm
    have hp : putE v = (v.l.length : Int) :: v.l := by unfold putE; rw [if_neg (by omega), if_neg (by omega)]
    have hpl : (putE v).length = v.l.length + 1 := by rw [hp]; simp
    have h2 : bs.drop (j + 2) = v.l ++ r := by
      have : bs.drop (j + 1) = (v.l.length : Int) :: (v.l ++ r) := by rw [h1, hp]; rfl
      exact drop_next this
    refine key v.l.length _ hp rfl (by unfold rightP; rw [if_neg (by omega), if_neg (by omega)]; have := k2.1; omega) (by omega) ?_
    unfold mkV stT
    rw [if_neg (by omega), if_neg (by omega), if_pos (by omega), take_front h2 rfl, VE.ext_iff']
    exact ⟨rfl, hm3.2.1.symm, hm3.2.2.1.symm, hm3.2.2.2.symm, rfl⟩
theorem decGo_enc : ∀ (vs : List VE) (j : Nat) (acc : List VE), (∀ v ∈ vs, mayE v) → j ≤ bs.length → bs.drop j = vs.flatMap encE → decGo bs vs.length j acc = (acc ++ vs, 0)
  | [], j, acc, _, hj, h => by
    have hl := drop_len h hj
    simp at hl
    show decGo bs 0 j acc = _
    unfold decGo
    rw [if_neg (by omega), if_neg (by omega), List.append_nil]
  | v :: vs, j, acc, hm, hj, h => by
    rw [List.flatMap_cons] at h
    have hl := drop_len h hj
    rw [List.length_append] at hl
    have hd := decI_enc (hm v (by simp)) hj h
    rw [List.length_cons]
    unfold decGo
    rw [hd]
    simp only
    rw [decGo_enc vs _ _ (fun w hw => hm w (by simp [hw])) (by omega) (drop_app h)]
    simp
end
theorem decL_enc {vs : List VE} (h : okL vs) : decL (encL vs) = (vs, 0) := by
  have h4 := h.1
  have g0 : (encL vs).getD 0 0 = (vs.length : Int) := rfl
  unfold decL
  rw [if_neg (by unfold encL; simp), g0, if_neg (by omega), Int.toNat_natCast]
  have := decGo_enc (bs := encL vs) vs 1 [] h.2 (by unfold encL; simp) rfl
  simpa using this
theorem split_at (bs : List Int) {j : Nat} (h : j < bs.length) : bs.drop j = bs.getD j 0 :: bs.drop (j + 1) := list_split h
theorem split_n (bs : List Int) (j n : Nat) : bs.drop j = (bs.drop j).take n ++ bs.drop (j + n) := by rw [← List.drop_drop, List.take_append_drop]
theorem getD_b {bs : List Int} (hb : IsB bs) (j : Nat) : 0 ≤ bs.getD j 0 ∧ bs.getD j 0 < 256 := (stV_one hb j).2
theorem dt_b {bs : List Int} (hb : IsB bs) (j n : Nat) : IsB ((bs.drop j).take n) := fun x hx => hb x (List.mem_of_mem_drop (List.mem_of_mem_take hx))
theorem enc_decI {bs : List Int} (hb : IsB bs) {j j' : Nat} {v : VE} (h : decI bs j = .ok (v, j')) : mayE v ∧ bs.drop j = encE v ++ bs.drop j' ∧ j' ≤ bs.length := by
  unfold decI at h
  split at h
  · cases h
  split at h
  · cases h
  split at h
  · cases h
  split at h
  · cases h
  split at h
  · cases h
  rename_i h1 h2 h3 h4 h5
  have h2 : 1 ≤ bs.getD j 0 ∧ bs.getD j 0 ≤ 4 := Decidable.byContradiction h2
  have h4 : rightP (bs.getD j 0) (bs.getD (j + 1) 0) := Decidable.byContradiction h4
  have hn := getD_b hb (j + 1)
  obtain ⟨hv, hj⟩ : mkV bs (bs.getD j 0) (bs.getD (j + 1) 0).toNat (j + 2) = v ∧ j + 2 + (bs.getD (j + 1) 0).toNat = j' := by
    have := Except.ok.inj h
    exact ⟨congrArg Prod.fst this, congrArg Prod.snd this⟩
  have s0 := split_at bs (j := j) (by omega)
  have s1 := split_at bs (j := j + 1) (by omega)
  have s2 := split_n bs (j + 2) (bs.getD (j + 1) 0).toNat
  rw [show j + 1 + 1 = j + 2 by omega] at s1
  rw [hj] at s2
  have lens : ((bs.drop (j + 2)).take (bs.getD (j + 1) 0).toNat).length = (bs.getD (j + 1) 0).toNat := by rw [List.length_take, List.length_drop]; omega
  generalize hnn : (bs.getD (j + 1) 0).toNat = n at *
  have en : bs.getD (j + 1) 0 = (n : Int) := by omega
  have hmv := hv
  unfold mkV at hv
  unfold rightP at h4
  by_cases k1 : bs.getD j 0 = 1
  · rw [if_pos k1] at hv h4
    have hn6 : n = 6 := by omega
    subst hn6
    have e5 : (bs.drop (j + 2)).take 6 = (bs.drop (j + 2)).take 5 ++ [bs.getD (j + 2 + 5) 0] := by
      rw [List.take_add_one, List.getElem?_drop, List.getElem?_eq_getElem (show j + 2 + 5 < bs.length by omega)]
      simp [List.getD, show j + 2 + 5 < bs.length by omega]
    have l5 : ((bs.drop (j + 2)).take 5).length = 5 := by simp; omega
    have r5 := beV_range l5 (by omega)
    have st : stV bs (j + 2) 5 = beV ((bs.drop (j + 2)).take 5) := by unfold stV; rw [if_pos (by omega)]
    rw [st, i64 (by omega) (by have := r5.2; omega)] at hv
    subst hv
    have hb5 := beB_beV l5 (by omega) (dt_b hb (j + 2) 5)
    have hr := getD_b hb (j + 2 + 5)
    refine ⟨(mayE_1 k1).2 ⟨⟨r5.1, by have := r5.2; simpa using this⟩, ⟨hr.1, show bs.getD (j + 2 + 5) 0 ≤ 255 by omega⟩, rfl, rfl⟩, ?_, by omega⟩
    unfold encE putE
    rw [if_pos k1]
    simp only
    rw [e5] at s2
    generalize (bs.drop (j + 2)).take 5 = X at hb5 s2 ⊢
    rw [hb5, s0, s1, s2, en]
    simp
  rw [if_neg k1] at hv h4
  by_cases k2 : bs.getD j 0 = 2
  · rw [if_pos k2] at hv h4
    have hn2 : n = 2 := by omega
    subst hn2
    have st : stV bs (j + 2) 2 = beV ((bs.drop (j + 2)).take 2) := by unfold stV; rw [if_pos (by omega)]
    rw [st] at hv
    subst hv
    refine ⟨(mayE_2 k2).2 ⟨tick_ok _, rfl, rfl, rfl⟩, ?_, by omega⟩
    unfold encE putE
    rw [if_neg (show ¬bs.getD j 0 = 1 from k1), if_pos k2]
    simp only
    have hbt := beB_tick lens (dt_b hb (j + 2) 2)
    generalize (bs.drop (j + 2)).take 2 = X at hbt s2 ⊢
    rw [hbt, s0, s1, s2, en]
    simp
  rw [if_neg k2] at hv h4
  have st : stT bs (j + 2) n = (bs.drop (j + 2)).take n := by unfold stT; rw [if_pos (by omega)]
  rw [st] at hv
  subst hv
  refine ⟨(mayE_3 (v := ⟨bs.getD j 0, 0, 0, 0, (bs.drop (j + 2)).take n⟩) (show bs.getD j 0 = 3 ∨ bs.getD j 0 = 4 by omega)).2 ⟨⟨by rw [lens]; omega, fun x hx => ?_⟩, rfl, rfl, rfl⟩, ?_, by omega⟩
  · have := dt_b hb (j + 2) n x hx
    exact ⟨this.1, by omega⟩
  · unfold encE putE
    rw [if_neg (show ¬bs.getD j 0 = 1 from k1), if_neg (show ¬bs.getD j 0 = 2 from k2)]
    simp only
    rw [lens]
    generalize (bs.drop (j + 2)).take n = X at s2 ⊢
    rw [s0, s1, s2, en]
    simp
theorem enc_decGo {bs : List Int} (hb : IsB bs) : ∀ (d j : Nat) (acc l : List VE), j ≤ bs.length → decGo bs d j acc = (l, 0) → ∃ vs : List VE, l = acc ++ vs ∧ vs.length = d ∧ (∀ v ∈ vs, mayE v) ∧ bs.drop j = vs.flatMap encE
  | 0, j, acc, l, hj, h => by
    unfold decGo at h
    split at h
    · cases h
    split at h
    · cases h
    · rename_i h1 h2
      refine ⟨[], by rw [← (Prod.mk.inj h).1]; simp, rfl, by simp, ?_⟩
      rw [List.drop_eq_nil_of_le (by omega)]; rfl
  | d + 1, j, acc, l, hj, h => by
    unfold decGo at h
    cases hd : decI bs j with
    | error e =>
      rw [hd] at h
      simp only at h
      have he : e = 0 := (Prod.mk.inj h).2
      subst he
      unfold decI at hd
      split at hd
      · cases hd
      split at hd
      · cases hd
      split at hd
      · cases hd
      split at hd
      · cases hd
      split at hd
      · cases hd
      · cases hd
    | ok r =>
      obtain ⟨v, j'⟩ := r
      rw [hd] at h
      simp only at h
      obtain ⟨hm, he, hj'⟩ := enc_decI hb hd
      obtain ⟨vs, h1, h2, h3, h4⟩ := enc_decGo hb d j' (acc ++ [v]) l hj' h
      refine ⟨v :: vs, by rw [h1]; simp, by simp [h2], fun w hw => ?_, by rw [List.flatMap_cons, he, h4]⟩
      rcases List.mem_cons.1 hw with rfl | hw
      · exact hm
      · exact h3 w hw
theorem enc_decL {bs : List Int} (hb : IsB bs) {vs : List VE} (h : decL bs = (vs, 0)) : encL vs = bs ∧ okL vs := by
  unfold decL at h
  split at h
  · cases h
  split at h
  · cases h
  rename_i h1 h2
  have h0 := getD_b hb 0
  obtain ⟨ws, e1, e2, e3, e4⟩ := enc_decGo hb _ 1 [] vs (by omega) h
  rw [List.nil_append] at e1
  subst e1
  refine ⟨?_, by omega, e3⟩
  unfold encL
  rw [e2, ← e4, show (((bs.getD 0 0).toNat : Nat) : Int) = bs.getD 0 0 by omega]
  have := split_at bs (j := 0) (by omega)
  rw [List.drop_zero] at this
  exact this.symm
theorem bodyF_eq (v : VF) : bodyF v = 197 :: v.kd :: v.s :: v.d :: v.q :: ((encL v.es).length : Int) :: (encL v.es ++ ((v.dt.length : Int) :: v.dt)) := by unfold bodyF; simp
theorem encF_len (v : VF) : (encF v).length = (encL v.es).length + v.dt.length + 9 := by
  have h1 : (encF v).length = (bodyF v).length + 2 := crcA_len _
  rw [h1, bodyF_len]
theorem encL_pos (vs : List VE) : 1 ≤ (encL vs).length := by unfold encL; simp
theorem encF_front (v : VF) : (encF v).take ((encF v).length - 2) = bodyF v := by
  have h1 : (encF v).length = (bodyF v).length + 2 := crcA_len _
  rw [h1, Nat.add_sub_cancel]
  unfold encF crcA
  rw [List.take_left]
theorem decY_enc {v : VF} (h : mayF v) : decY (bodyF v) = (v, 0) := by
  have e := bodyF_eq v
  have hl := bodyF_len v
  have d6 : (bodyF v).drop 6 = encL v.es ++ ((v.dt.length : Int) :: v.dt) := by rw [e]; rfl
  have g5 : (bodyF v).getD 5 0 = ((encL v.es).length : Int) := by rw [e]; rfl
  have dn : (bodyF v).drop (6 + (encL v.es).length) = (v.dt.length : Int) :: v.dt := drop_app d6
  have gn : (bodyF v).getD (6 + (encL v.es).length) 0 = (v.dt.length : Int) := gd dn
  have dd : (bodyF v).drop (7 + (encL v.es).length) = v.dt := by
    have := drop_next dn
    rw [show 6 + (encL v.es).length + 1 = 7 + (encL v.es).length by omega] at this
    exact this
  have rx : rfT (bodyF v) 6 (encL v.es).length = encL v.es := by unfold rfT; rw [if_pos (by omega)]; exact take_front d6 rfl
  have rd : rfT (bodyF v) (7 + (encL v.es).length) v.dt.length = v.dt := by
    unfold rfT; rw [if_pos (by omega), dd, List.take_length]
  have g0 : (bodyF v).getD 0 0 = 197 := by rw [e]; rfl
  have fv : frV (bodyF v) v.es = v := by
    unfold frV
    rw [g5, Int.toNat_natCast, gn, Int.toNat_natCast, rd, e]
    rfl
  unfold decY
  rw [g5, Int.toNat_natCast, gn, Int.toNat_natCast, rx, decL_enc h.2.2.2.2.1, if_neg (fun c => c ⟨g0, by omega⟩), if_neg (by simp)]
  simp only
  rw [fv, if_pos h]
theorem decF_enc {v : VF} (h : mayF v) : decF (encF v) = (v, 0) := by
  have hl := encF_len v
  have hp := encL_pos v.es
  unfold decF
  rw [if_neg (by omega), show goodB (encF v) = true from crcA_good _, if_neg (by simp), encF_front, decY_enc h]
theorem good_eq {bs : List Int} (h : goodB bs = true) : crcA (bs.take (bs.length - 2)) = bs := by
  unfold goodB at h
  exact (of_decide_eq_true h).2
theorem enc_decY {ys : List Int} (hb : IsB ys) {v : VF} (h : decY ys = (v, 0)) : bodyF v = ys ∧ mayF v ∧ IsB v.dt := by
  unfold decY at h
  split at h
  · cases h
  split at h
  · rename_i h1 h2
    exact absurd (Prod.mk.inj h).2 h2
  split at h
  · rename_i h1 h2 h3
    have h1 : ys.getD 0 0 = 197 ∧ 7 + (ys.getD 5 0).toNat + (ys.getD (6 + (ys.getD 5 0).toNat) 0).toNat = ys.length := Decidable.byContradiction h1
    obtain ⟨hv, _⟩ := Prod.mk.inj h
    have y5 := getD_b hb 5
    have hr : rfT ys 6 (ys.getD 5 0).toNat = (ys.drop 6).take (ys.getD 5 0).toNat := by unfold rfT; rw [if_pos (by omega)]
    have hd : decL (rfT ys 6 (ys.getD 5 0).toNat) = ((decL (rfT ys 6 (ys.getD 5 0).toNat)).1, 0) := by
      exact Prod.ext rfl (Decidable.byContradiction h2)
    have hx := enc_decL (by rw [hr]; exact dt_b hb _ _) hd
    generalize (decL (rfT ys 6 (ys.getD 5 0).toNat)).1 = es at *
    have lx : (encL es).length = (ys.getD 5 0).toNat := by rw [hx.1, hr, List.length_take, List.length_drop]; omega
    have ym := getD_b hb (6 + (ys.getD 5 0).toNat)
    have rd : rfT ys (7 + (ys.getD 5 0).toNat) (ys.getD (6 + (ys.getD 5 0).toNat) 0).toNat = ys.drop (7 + (ys.getD 5 0).toNat) := by
      unfold rfT; rw [if_pos (by omega), List.take_of_length_le (by rw [List.length_drop]; omega)]
    subst hv
    refine ⟨?_, h3, by show IsB (rfT ys _ _); rw [rd]; exact fun x hx => hb x (List.mem_of_mem_drop hx)⟩
    rw [bodyF_eq]
    unfold frV
    simp only
    rw [rd, hx.1, hr]
    have s0 := split_at ys (j := 0) (by omega)
    have s1 := split_at ys (j := 1) (by omega)
    have s2 := split_at ys (j := 2) (by omega)
    have s3 := split_at ys (j := 3) (by omega)
    have s4 := split_at ys (j := 4) (by omega)
    have s5 := split_at ys (j := 5) (by omega)
    have s6 := split_n ys 6 (ys.getD 5 0).toNat
    have s7 := split_at ys (j := 6 + (ys.getD 5 0).toNat) (by omega)
    rw [List.drop_zero] at s0
    rw [show 6 + (ys.getD 5 0).toNat + 1 = 7 + (ys.getD 5 0).toNat by omega] at s7
    have lt : ((ys.drop 6).take (ys.getD 5 0).toNat).length = (ys.getD 5 0).toNat := by rw [List.length_take, List.length_drop]; omega
    have l7 : ((ys.drop (7 + (ys.getD 5 0).toNat)).length : Int) = ys.getD (6 + (ys.getD 5 0).toNat) 0 := by rw [List.length_drop]; omega
    rw [lt, l7, ← s7, ← s6, show (((ys.getD 5 0).toNat : Nat) : Int) = ys.getD 5 0 by omega, ← s5, ← s4, ← s3, ← s2, ← s1, ← h1.1, ← s0]
  · cases h
theorem enc_decF {bs : List Int} (hb : IsB bs) {v : VF} (h : decF bs = (v, 0)) : encF v = bs ∧ mayF v ∧ IsB v.dt := by
  unfold decF at h
  split at h
  · cases h
  split at h
  · cases h
  rename_i h1 h2
  have hg : goodB bs = true := by
    cases hh : goodB bs
    · exact absurd hh h2
    · rfl
  obtain ⟨e, m, d⟩ := enc_decY (fun x hx => hb x (List.mem_of_mem_take hx)) h
  refine ⟨?_, m, d⟩
  unfold encF
  rw [e, good_eq hg]
theorem encF_isB {v : VF} (h : mayF v) (hd : IsB v.dt) : IsB (encF v) := IsB.crcA (bodyF_isB h hd)
theorem encFO_isB (v : VF) (hd : IsB v.dt) : IsB (encFO v) := by
  unfold encFO
  split
  · rename_i h; exact encF_isB h hd
  · exact isB_nil
/-- A frame that every program must know. -/
abbrev vfA : VF := ⟨4, 1, 2, 3, [], []⟩
theorem mayA : mayF vfA := by decide
namespace F27
theorem ok (H : Heap) : ∃ H', Ce 27 [] H = some (.bool true, H') ∧ Keep H.next H H' := by
  let f : Fm := ⟨4, 1, 2, 3, [], none, 0, [], none, 0⟩
  have hf : FmOk H f := ⟨⟨rfl, .inl ⟨rfl, rfl, rfl⟩⟩, (fun e (he : e ∈ []) => absurd he (by simp)), Ints.nil, (show 0 ≤ 3000000000000 by omega), (show 0 ≤ 140737488351232 by omega)⟩
  have hv : f.v = vfA := rfl
  obtain ⟨a1, k1', H1, c1, o1, k1⟩ := F33.ok hf isB_nil
  rw [hv, if_pos mayA] at c1
  rw [hv] at o1
  have hb := encFO_isB vfA isB_nil
  have el : encFO vfA = encF vfA := if_pos mayA
  have ll : (encFO vfA).length = 10 := by rw [el, encF_len]; rfl
  obtain ⟨g, H2, c2, v2, ok2, k2⟩ := F30.ok (show By H1 a1 (encFO vfA).length k1' (encFO vfA) from o1.sl) hb (by omega)
  rw [el, decF_enc mayA] at v2
  have c2' : Ce 30 [.slice a1 (encFO vfA).length k1'] H1 = some (.tuple #[g.agg, .int .i64 0], H2) := by
    have : (decF (encFO vfA)).2 = 0 := by rw [el, decF_enc mayA]
    rw [this] at c2; exact c2
  obtain ⟨H4, s4, g4, k4, n4⟩ := fill H2 fm0.cells g.cells rfl
  obtain ⟨b, o, hbo⟩ := o1.sl.at (by omega)
  have kk := k2.trans (k4.weak k2.next)
  have o4 : By H4 a1 (encFO vfA).length k1' (encFO vfA) := o1.sl.keep kk
  rw [hbo] at o4
  have g0 : (encFO vfA)[0]? = some 197 := by
    rw [el]; unfold encF crcA; rw [bodyF_eq]; rfl
  have ld := Ints.get0 o4 g0
  have k02 := k1.trans (k2.weak k1.next)
  refine ⟨H4, call ⟨_, _, _, _, _, c1, _, _, _, _, _, _, _, _, _, _, _, _, c2', _, rfl, H4, s4, ?_⟩, k02.trans (k4.weak k02.next)⟩
  rw [if_pos rfl, ll, if_pos (by rfl)]
  refine ⟨b, o, hbo, by omega, by omega, _, ld, ?_⟩
  rw [if_pos rfl, if_pos rfl]
  refine ⟨_, rldc' g4 2, ?_⟩
  have ed : g.d = 2 := congrArg VF.d v2
  have eq : g.q = 3 := congrArg VF.q v2
  rw [if_pos ed]
  refine ⟨_, rldc' g4 3, ?_⟩
  rw [eq]; rfl
end F27
abbrev TFm : Ty := .strct (.pair (.int .i64) (.pair (.int .i64) (.pair (.int .i64) (.pair (.int .i64) (.pair (.slice TIe 56) (.pair (.slice (.int .u8) 1) .unit))))))
theorem fmOf {H : Heap} {vs : List Value} (h : Holds H TFm vs) : ∃ f : Fm, vs = f.cells ∧ FmOk H f ∧ IsB f.dt := by
  obtain ⟨_, _, rfl, ⟨a, rfl, _⟩, _, _, rfl, ⟨b, rfl, _⟩, _, _, rfl, ⟨c, rfl, _⟩, _, _, rfl, ⟨d, rfl, _⟩, _, _, rfl, hs, _, _, rfl, hd, rfl⟩ := h
  obtain ⟨x, n, k, l, rfl, s, hl, hok, hb⟩ := Holds.recs (f := Ie.cells) (Q := IeOk H) (fun _ h => ieOf h) hs
  obtain ⟨y, m, j, xs, rfl, t, hm, w⟩ := hd.ints
  have htl := t.ln
  subst htl
  subst hl
  exact ⟨⟨a, b, c, d, l, x, k, xs, y, j⟩, rfl, ⟨s, hok, t, show l.length ≤ 3000000000000 by omega, show xs.length ≤ 140737488351232 by omega⟩, IsB.of w⟩
/-- Two new rows; what is in them. -/
theorem FmOk.len {H : Heap} {f : Fm} (h : FmOk H f) (m : mayF f.v) : (encF f.v).length ≤ 200 := by
  have := encF_len f.v
  have := encL_len m.2.2.2.2.1
  have : f.v.dt.length ≤ 64 := m.2.2.2.2.2.1
  omega
theorem encFO_may {v : VF} (m : mayF v) : encFO v = encF v := if_pos m
theorem encFO_no {v : VF} (m : ¬mayF v) : encFO v = [] := if_neg m
theorem bit0 (s : BitVec 16) : iand .u16 (nb s) 1 = if s.getLsbD 0 then 1 else 0 := by
  have e1 : iand .u16 (nb s) 1 = nb (s &&& 1#16) := iand_nb (k := .u16) rfl s 1#16
  have h : s.getLsbD 0 = decide (s.toNat % 2 = 1) := by rw [BitVec.getLsbD, Nat.testBit_zero]
  have e : s.toNat &&& 1 = s.toNat % 2 := Nat.and_one_is_mod _
  rw [e1, h, nb, BitVec.toNat_and, show (1#16).toNat = 1 from rfl, e]
  rcases Nat.mod_two_eq_zero_or_one s.toNat with h | h <;> simp [h]
theorem round2 (s : BitVec 16) : (if iand .u16 (nb s) 1 = 1 then ixor .u16 (ishr .u16 (nb s) 1) 33800 else ishr .u16 (nb s) 1) = nb (crcR s) := by
  have e4 : ishr .u16 (nb s) 1 = nb (s >>> 1) := ishr_nb (k := .u16) s 1 (by decide)
  rw [bit0, e4, crcR_if]
  cases s.getLsbD 0
  · simp
  · simp only [if_true]
    exact ixor_nb (k := .u16) rfl _ 33800#16
namespace F57
theorem l1 {a : Nat} {o n k : Nat} {t7 t8 : Int} {H : Heap} {r : Value × Heap} : ∀ (m : Nat) (s : BitVec 16) (i : Int), i + m = 8 → 0 ≤ i →
    L0 (nb (crcN m s)) (some ⟨a, o, none⟩) n k t7 (IntKind.wrap .i64 (t8 + 1)) H r → L1 (nb s) a o n k t7 t8 i H r := by
  intro m
  induction m with
  | zero =>
    intro s i hi h0 h
    refine L1_step ?_
    rw [if_neg (by omega)]
    exact h
  | succ m ih =>
    intro s i hi h0 h
    have z := ih (crcR s) (i + 1) (by omega) (by omega) h
    have e := round2 s
    refine L1_step ?_
    rw [if_pos (by omega), i64 (by omega) (by omega)]
    by_cases hb : iand .u16 (nb s) 1 = 1
    · rw [if_pos hb] at e ⊢
      rw [e]; exact z
    · rw [if_neg hb] at e ⊢
      rw [e]; exact z
theorem l0 {H : Heap} {a : Option Addr} {n k : Nat} {xs : List Int} (hs : By H a n k xs) (hn : n < 4611686018427387904) : ∀ (rest : List Int) (j : Nat) (s : BitVec 16), xs.drop j = rest → j + rest.length = n →
    L0 (nb s) a n k (n : Int) (j : Int) H (.int .u16 (nb (crcL s rest)), H) := by
  intro rest
  induction rest with
  | nil =>
    intro j s hd hj
    simp only [List.length_nil] at hj
    refine L0_step ?_
    rw [if_neg (by omega)]
    rfl
  | cons x rest ih =>
    intro j s hd hj
    simp only [List.length_cons] at hj
    obtain ⟨b, o, rfl⟩ := hs.at (by omega)
    refine L0_step ?_
    rw [if_pos (by omega)]
    have hx : xs[j]? = some x := by have := congrArg (·[0]?) hd; simpa using this
    refine ⟨b, o, rfl, by omega, by omega, x, Ints.get hs hx, ?_⟩
    rw [byteI]
    refine l1 8 _ 0 rfl (by decide) ?_
    rw [i64 (by omega) (by omega)]
    have := ih (j + 1) (crcB s x) (by rw [← List.drop_drop, hd]; rfl) (by omega)
    rw [crcL_cons]
    exact_mod_cast this
theorem ok {H : Heap} {a : Option Addr} {n k : Nat} {xs : List Int} (hs : By H a n k xs) (hn : n < 4611686018427387904) : Ce 57 [.slice a n k] H = some (.int .u16 (nb (crcL 0#16 xs)), H) := by
  refine call ?_
  exact l0 hs hn xs 0 0#16 (by simp) (by have := hs.ln; omega)
end F57
namespace F29
theorem ok {H : Heap} {a : Option Addr} {n k : Nat} {xs : List Int} (hs : By H a n k xs) (hn : n + 2 ≤ 140737488355328) : ∃ a' k' H', Ce 29 [.slice a n k] H = some (.slice a' (n + 2) k', H') ∧ Own H.next H' 1 a' (n + 2) k' ((crcA xs).map (Value.int .u8)) ∧ Keep H.next H H' := by
  have z : Own H.next H 1 none 0 0 [] := ⟨rfl, .inl ⟨rfl, rfl, rfl⟩⟩
  obtain ⟨a1, k1, H1, c1, o1, p1⟩ := z.append (by_ := 1) hs (by decide) (Nat.le_refl _) (by omega) (by omega)
  rw [Nat.zero_add] at c1 o1
  rw [List.nil_append] at o1
  have hp := Keep.push (H := H1) (.row [.int .u8 (lo8 (crcL 0#16 xs)), .int .u8 (hi8 (crcL 0#16 xs))] true) (Nat.le_refl H1.next)
  have e := (Own.new (H := H1) (z := 1) (n := 2) (vs := [.int .u8 (lo8 (crcL 0#16 xs)), .int .u8 (hi8 (crcL 0#16 xs))]) rfl).sl
  obtain ⟨a', k', H', h1, h2, h3⟩ := (o1.keep hp).append (by_ := 1) e (by decide) (Nat.le_trans p1.next hp.next) (by omega) (by omega)
  refine ⟨a', k', H', call ⟨_, _, F57.ok hs (by omega), _, _, _, _, c1, _, rfl, _, _, _, _, h1, rfl⟩, ?_, p1.trans ((hp.weak p1.next).trans h3)⟩
  simpa [crcA] using h2
end F29
namespace F61
theorem ok {H : Heap} {a : Option Addr} {n k : Nat} {xs : List Int} (hs : By H a n k xs) (hb : IsB xs) (hn : n ≤ 140737488355328) : ∃ H', Ce 61 [.slice a n k] H = some (.bool (goodB xs), H') ∧ Keep H.next H H' := by
  have hx := hs.ln
  by_cases h2 : 2 ≤ n
  · obtain ⟨a1, k1, hp, hs1⟩ := Sl.part (show Sl H 1 a n k _ from hs) none (some ((n - 2 : Nat) : Int)) 0 (n - 2) (.inl ⟨rfl, rfl⟩) (.inr rfl) (by omega) (by omega)
    have hs1 : By H a1 (n - 2) k1 (xs.take (n - 2)) := by simpa [← List.map_take] using hs1
    obtain ⟨a', k', H', c, o, p⟩ := F29.ok hs1 (by omega)
    refine ⟨H', call ?_, p⟩
    rw [i64 (by omega) (by omega), if_pos (by omega)]
    refine ⟨_, _, _, ?_, _, _, _, _, c, _, Sl.str o.sl, _, Sl.str hs, Sl.str (hs.keep p), ?_⟩
    · rw [show ((n : Int) - 2) = ((n - 2 : Nat) : Int) by omega]; simpa using hp
    · rw [str_eq (IsB.crcA fun x hx => hb x (List.mem_of_mem_take hx)) hb]
      unfold goodB
      rw [hx]
      simp [h2]
  · refine ⟨H, call ?_, Keep.refl _ _⟩
    rw [i64 (by omega) (by omega), if_neg (by omega)]
    unfold goodB
    rw [hx]
    simp [h2]
end F61
namespace F67
theorem ok (x : Int) (H : Heap) : Ce 67 [.int .i64 x] H = some (.bool (decide (fnode x)), H) := by
  refine call ?_
  by_cases h : x ≥ 0
  · rw [if_pos h, show decide (x < 16) = decide (fnode x) from decide_eq_decide.2 ⟨fun h' => ⟨h, h'⟩, fun h' => h'.2⟩]
  · rw [if_neg h, decide_eq_false fun h' => h h'.1]
end F67
namespace F32
theorem ok {H : Heap} {f g : Fm} (h : FmOk H f) (h2 : FmOk H g) (hb : IsB f.dt) (hb2 : IsB g.dt) : ∃ H', Ce 32 [f.agg, g.agg] H = some (.bool (decide (f.v = g.v)), H') ∧ Keep H.next H H' := by
  obtain ⟨H1, H2, e1, e2, n1, n2, g1, g2, g3, k1, k2⟩ := two H f.cells g.cells
  have hf := h.keep k2
  have hg := h2.keep k2
  by_cases c1 : f.kd = g.kd
  · by_cases c2 : f.s = g.s
    · by_cases c3 : f.d = g.d
      · by_cases c4 : f.q = g.q
        · obtain ⟨H3, c5, k3⟩ := F25.ok hf.ies hg.ies hf.ok hg.ok hf.ls
          have g2' : H3.get H.next = .row f.cells true := by rw [k3.get _ (by omega)]; exact g2
          have g3' : H3.get H1.next = .row g.cells true := by rw [k3.get _ (by omega)]; exact g3
          have k03 := k2.trans (k3.weak k2.next)
          by_cases c6 : f.l.map Ie.v = g.l.map Ie.v
          · refine ⟨H3, call ⟨_, e1, _, e2, _, rldc' g2 0, _, rldc' g3 0, ?_⟩, k03⟩
            rw [if_pos c1]
            refine ⟨_, rldc' g2 1, _, rldc' g3 1, ?_⟩
            rw [if_pos c2]
            refine ⟨_, rldc' g2 2, _, rldc' g3 2, ?_⟩
            rw [if_pos c3]
            refine ⟨_, rldc' g2 3, _, rldc' g3 3, ?_⟩
            rw [if_pos c4]
            refine ⟨_, _, _, rldc' g2 4, _, _, _, rldc' g3 4, _, _, c5, ?_⟩
            rw [if_pos (by simpa using c6)]
            refine ⟨_, _, _, rldc' g2' 5, _, Sl.str (hf.dts.keep k3), _, _, _, rldc' g3' 5, _, Sl.str (hg.dts.keep k3), ?_⟩
            rw [str_eq hb hb2, show decide (f.v = g.v) = decide (f.dt = g.dt) from decide_eq_decide.2 ⟨fun e => congrArg VF.dt e, fun e => (VF.ext_iff' _ _).2 ⟨c1, c2, c3, c4, c6, e⟩⟩]
          · refine ⟨H3, call ⟨_, e1, _, e2, _, rldc' g2 0, _, rldc' g3 0, ?_⟩, k03⟩
            rw [if_pos c1]
            refine ⟨_, rldc' g2 1, _, rldc' g3 1, ?_⟩
            rw [if_pos c2]
            refine ⟨_, rldc' g2 2, _, rldc' g3 2, ?_⟩
            rw [if_pos c3]
            refine ⟨_, rldc' g2 3, _, rldc' g3 3, ?_⟩
            rw [if_pos c4]
            refine ⟨_, _, _, rldc' g2 4, _, _, _, rldc' g3 4, _, _, c5, ?_⟩
            rw [if_neg (by simpa using c6), decide_eq_false fun e => c6 (congrArg VF.es e)]
        · refine ⟨H2, call ⟨_, e1, _, e2, _, rldc' g2 0, _, rldc' g3 0, ?_⟩, k2⟩
          rw [if_pos c1]
          refine ⟨_, rldc' g2 1, _, rldc' g3 1, ?_⟩
          rw [if_pos c2]
          refine ⟨_, rldc' g2 2, _, rldc' g3 2, ?_⟩
          rw [if_pos c3]
          refine ⟨_, rldc' g2 3, _, rldc' g3 3, ?_⟩
          rw [if_neg c4, decide_eq_false fun e => c4 (congrArg VF.q e)]
      · refine ⟨H2, call ⟨_, e1, _, e2, _, rldc' g2 0, _, rldc' g3 0, ?_⟩, k2⟩
        rw [if_pos c1]
        refine ⟨_, rldc' g2 1, _, rldc' g3 1, ?_⟩
        rw [if_pos c2]
        refine ⟨_, rldc' g2 2, _, rldc' g3 2, ?_⟩
        rw [if_neg c3, decide_eq_false fun e => c3 (congrArg VF.d e)]
    · refine ⟨H2, call ⟨_, e1, _, e2, _, rldc' g2 0, _, rldc' g3 0, ?_⟩, k2⟩
      rw [if_pos c1]
      refine ⟨_, rldc' g2 1, _, rldc' g3 1, ?_⟩
      rw [if_neg c2, decide_eq_false fun e => c2 (congrArg VF.s e)]
  · refine ⟨H2, call ⟨_, e1, _, e2, _, rldc' g2 0, _, rldc' g3 0, ?_⟩, k2⟩
    rw [if_neg c1, decide_eq_false fun e => c1 (congrArg VF.kd e)]
end F32
namespace F35
theorem l2 {H : Heap} {b : Nat} {f : Fm} (h : FmOk H f) (g : H.get b = .row f.cells true) (hb : b < H.next) (hk : 1 ≤ f.kd ∧ f.kd ≤ 5) : ∃ H', L2 b 0 f.kd (if f.kd = 2 then true else (f.kd == 4)) H (.bool (decide (saysP f.kd f.d (f.l.map Ie.v) f.dt)), H') ∧ Keep H.next H H' := by
  have len0 : ((f.dt.length : Int) == 0) = decide (f.dt = []) := by
    rw [show ((f.dt.length : Int) == 0) = decide ((f.dt.length : Int) = 0) from rfl]
    refine decide_eq_decide.2 ⟨fun c => List.eq_nil_of_length_eq_zero (by omega), fun c => by rw [c]; rfl⟩
  have lenP : decide ((f.dt.length : Int) > 0) = decide (f.dt ≠ []) := by
    refine decide_eq_decide.2 ⟨fun c e => by rw [e] at c; simp at c, fun c => by have := List.length_pos_iff.2 c; omega⟩
  by_cases hk24 : f.kd = 2 ∨ f.kd = 4
  · have ef : (if f.kd = 2 then true else (f.kd == 4)) = true := by rcases hk24 with h | h <;> simp [h]
    rw [ef]
    refine ⟨H, L2_step ?_, Keep.refl _ _⟩
    rw [if_pos rfl]
    refine ⟨_, rldc' g 2, ?_⟩
    by_cases hd : f.d = 64
    · rw [if_pos hd, decide_eq_false]
      rintro (m | m | m)
      · exact m.2.1 hd
      · have := m.1; omega
      · have := m.1; omega
    · rw [if_neg hd]
      refine ⟨_, _, _, rldc' g 5, ?_⟩
      rw [len0, show decide (saysP f.kd f.d (f.l.map Ie.v) f.dt) = decide (f.dt = []) from decide_eq_decide.2 ⟨fun m => by
        rcases m with m | m | m
        · exact m.2.2
        · exact m.2.2.1
        · have := m.1; omega, fun m => .inl ⟨hk24, hd, m⟩⟩]
  have ef : (if f.kd = 2 then true else (f.kd == 4)) = false := by
    rw [if_neg fun c => hk24 (.inl c)]
    simpa using fun c => hk24 (.inr c)
  rw [ef]
  by_cases h3 : f.kd = 3
  · obtain ⟨e, H2, c2, k2, h2, v2⟩ := F22.ok h.ies h.ls h.ok 1
    obtain ⟨H4, s4, g4, k4, n4⟩ := scratchE (H := H2) (e := e)
    have k24 := k2.trans (k4.weak k2.next)
    have gf : H4.get b = .row f.cells true := by rw [k24.get _ hb]; exact g
    refine ⟨H4, L2_step ?_, k24⟩
    rw [if_neg (by simp), if_pos h3]
    refine ⟨_, _, _, rldc' g 4, _, _, _, _, _, _, _, _, _, c2, _, rfl, H4, s4, _, rldc' gf 2, ?_⟩
    by_cases hd : f.d = 64
    · rw [if_pos hd]
      refine ⟨_, _, _, rldc' gf 5, ?_⟩
      by_cases hdt : (f.dt.length : Int) = 0
      · rw [if_pos hdt]
        have hdt' : f.dt = [] := List.eq_nil_of_length_eq_zero (by omega)
        rw [show decide (saysP f.kd f.d (f.l.map Ie.v) f.dt) = (fstV 1 (f.l.map Ie.v)).isSome by
          cases hs : (fstV 1 (f.l.map Ie.v)).isSome
          · refine decide_eq_false ?_
            rintro (m | m | m)
            · exact m.2.1 hd
            · have := m.2.2.2; rw [hs] at this; cases this
            · exact m.2.1 hd
          · exact decide_eq_true (.inr (.inl ⟨h3, hd, hdt', hs⟩))]
      · rw [if_neg hdt, decide_eq_false]
        rintro (m | m | m)
        · exact m.2.1 hd
        · exact hdt (by rw [m.2.2.1]; rfl)
        · exact m.2.1 hd
    · rw [if_neg hd, decide_eq_false]
      rintro (m | m | m)
      · exact hk24 m.1
      · exact hd m.2.1
      · have := m.1; omega
  · refine ⟨H, L2_step ?_, Keep.refl _ _⟩
    rw [if_neg (by simp), if_neg h3]
    refine ⟨_, rldc' g 2, ?_⟩
    by_cases hd : f.d = 64
    · rw [if_pos hd, decide_eq_false]
      rintro (m | m | m)
      · exact m.2.1 hd
      · exact h3 m.1
      · exact m.2.1 hd
    · rw [if_neg hd]
      refine ⟨_, _, _, rldc' g 5, ?_⟩
      rw [lenP, show decide (saysP f.kd f.d (f.l.map Ie.v) f.dt) = decide (f.dt ≠ []) from decide_eq_decide.2 ⟨fun m => by
        rcases m with m | m | m
        · exact absurd m.1 hk24
        · exact absurd m.1 h3
        · exact m.2.2, fun m => .inr (.inr ⟨by omega, hd, m⟩)⟩]
theorem l1 {G : Heap} {b : Nat} {f : Fm} (h : FmOk G f) (g : G.get b = .row f.cells true) (hb : b < G.next) (hk : 1 ≤ f.kd ∧ f.kd ≤ 5) : ∀ (rest : List Ie) (j : Nat) (H : Heap), f.l.drop j = rest → j + rest.length = f.l.length → Keep G.next G H →
    ∃ H', L1 b 0 f.ea f.l.length f.ek (f.l.length : Int) (j : Int) H (.bool (decide ((∀ e ∈ rest, mayE e.v) ∧ saysP f.kd f.d (f.l.map Ie.v) f.dt)), H') ∧ Keep G.next G H' := by
  have hls := h.ls
  intro rest
  induction rest with
  | nil =>
    intro j H hd hj hkp
    simp only [List.length_nil] at hj
    have gH : H.get b = .row f.cells true := by rw [hkp.get _ hb]; exact g
    obtain ⟨H', z, k'⟩ := l2 (h.keep hkp) gH (by have := hkp.next; omega) hk
    rw [show decide ((∀ e ∈ ([] : List Ie), mayE e.v) ∧ saysP f.kd f.d (f.l.map Ie.v) f.dt) = decide (saysP f.kd f.d (f.l.map Ie.v) f.dt) from decide_eq_decide.2 ⟨fun m => m.2, fun m => ⟨by simp, m⟩⟩]
    refine ⟨H', L1_step ?_, hkp.trans (k'.weak hkp.next)⟩
    rw [if_neg (by omega)]
    refine ⟨_, rldc' gH 0, ?_⟩
    by_cases h2 : f.kd = 2
    · rw [if_pos h2]
      rw [if_pos h2] at z
      rwa [show (f.kd == 2) = true by simp [h2]]
    · rw [if_neg h2]
      rw [if_neg h2] at z
      exact z
  | cons e rest ih =>
    intro j H hd hj hkp
    simp only [List.length_cons] at hj
    have hx := drop_get hd
    have hmem := List.mem_of_getElem? hx
    obtain ⟨b1, o1, hea⟩ := h.ies.at (by omega)
    have s1 := h.ies.keep hkp
    rw [hea] at s1
    have ra := s1.recs Ie.z hx
    obtain ⟨H2, s2, g2, k2, n2⟩ := scratchE (H := H) (e := e)
    have hk2 := hkp.trans (k2.weak hkp.next)
    obtain ⟨H3, c3, k3⟩ := F18.ok ((h.ok e hmem).keep hk2)
    have hk3 := hk2.trans (k3.weak hk2.next)
    by_cases hm : mayE e.v
    · obtain ⟨H', z, k'⟩ := ih (j + 1) H3 (drop_next hd) (by omega) hk3
      rw [show decide ((∀ x ∈ e :: rest, mayE x.v) ∧ saysP f.kd f.d (f.l.map Ie.v) f.dt) = decide ((∀ x ∈ rest, mayE x.v) ∧ saysP f.kd f.d (f.l.map Ie.v) f.dt) by simp [hm]]
      refine ⟨H', L1_step ?_, k'⟩
      rw [if_pos (by omega)]
      refine ⟨b1, o1, hea, by omega, by omega, _, _, _, _, _, _, _, ra, _, rfl, H2, s2, _, _, _, _, _, _, _, rldAll g2, _, _, c3, ?_⟩
      rw [if_pos (by simpa using hm), i64 (by omega) (by omega), ← hea]
      exact_mod_cast z
    · rw [show decide ((∀ x ∈ e :: rest, mayE x.v) ∧ saysP f.kd f.d (f.l.map Ie.v) f.dt) = false from decide_eq_false fun c => hm (c.1 e (by simp))]
      refine ⟨H3, L1_step ?_, hk3⟩
      rw [if_pos (by omega)]
      refine ⟨b1, o1, hea, by omega, by omega, _, _, _, _, _, _, _, ra, _, rfl, H2, s2, _, _, _, _, _, _, _, rldAll g2, _, _, c3, ?_⟩
      rw [if_neg (by simpa using hm)]
theorem ok {H : Heap} {f : Fm} (h : FmOk H f) : ∃ H', Ce 35 [f.agg] H = some (.bool (decide (mayF f.v)), H') ∧ Keep H.next H H' := by
  obtain ⟨H1, e1, n1, g1, k1⟩ := one H f.cells
  have h1 := h.keep k1
  have bad : ¬mayF f.v → ∃ H', L0 H.next 0 true H1 (.bool (decide (mayF f.v)), H') ∧ Keep H.next H H' := fun hm => by
    refine ⟨H1, L0_step ?_, k1⟩
    rw [if_pos rfl, decide_eq_false hm]
  by_cases k0 : f.kd < 1
  · obtain ⟨H', z, k'⟩ := bad fun m => by have : 1 ≤ f.kd := (mayF_kd m).1; omega
    refine ⟨H', call ⟨_, e1, _, rldc' g1 0, ?_⟩, k'⟩
    rw [if_pos k0]; exact z
  by_cases k5 : f.kd > 5
  · obtain ⟨H', z, k'⟩ := bad fun m => by have : f.kd ≤ 5 := (mayF_kd m).2; omega
    refine ⟨H', call ⟨_, e1, _, rldc' g1 0, ?_⟩, k'⟩
    rw [if_neg k0]
    refine ⟨_, rldc' g1 0, ?_⟩
    rw [if_pos k5]; exact z
  have start : ∀ r, (∃ (t17 : Int), ldc H1 H.next 1 = some (.int .i64 t17) ∧
    (∃ (t18 : Bool) (H_2 : Heap), Ce 67 [.int .i64 t17] H1 = some (.bool t18, H_2) ∧
    (if t18 = true then
    (∃ (t23 : Int), ldc H_2 H.next 2 = some (.int .i64 t23) ∧
    (∃ (t24 : Bool) (H_3 : Heap), Ce 67 [.int .i64 t23] H_2 = some (.bool t24, H_3) ∧
    (if t24 = true then
    (∃ (t34 : Int), ldc H_3 H.next 2 = some (.int .i64 t34) ∧
    (∃ (t36 : Int), ldc H_3 H.next 1 = some (.int .i64 t36) ∧
    (if t34 = t36 then
    (L0 (H.next) (0) (true) H_3 r)
    else
    (∃ (t41 : Int), ldc H_3 H.next 3 = some (.int .i64 t41) ∧
    (if t41 < 0 then
    (L0 (H.next) (0) (true) H_3 r)
    else
    (∃ (t46 : Int), ldc H_3 H.next 3 = some (.int .i64 t46) ∧
    (if t46 > 255 then
    (L0 (H.next) (0) (true) H_3 r)
    else
    (∃ (t51a : Option Addr) (t51n : Nat) (t51k : Nat), ldc H_3 H.next 4 = some (.slice t51a t51n t51k) ∧
    (if ((t51n : Nat) : Int) > 4 then
    (L0 (H.next) (0) (true) H_3 r)
    else
    (∃ (t57a : Option Addr) (t57n : Nat) (t57k : Nat), ldc H_3 H.next 5 = some (.slice t57a t57n t57k) ∧
    (L0 (H.next) (0) ((decide (((t57n : Nat) : Int) > 64))) H_3 r)))))))))))
    else
    (∃ (t28 : Int), ldc H_3 H.next 2 = some (.int .i64 t28) ∧
    (if t28 = 64 then
    (∃ (t34_1 : Int), ldc H_3 H.next 2 = some (.int .i64 t34_1) ∧
    (∃ (t36_1 : Int), ldc H_3 H.next 1 = some (.int .i64 t36_1) ∧
    (if t34_1 = t36_1 then
    (L0 (H.next) (0) (true) H_3 r)
    else
    (∃ (t41_1 : Int), ldc H_3 H.next 3 = some (.int .i64 t41_1) ∧
    (if t41_1 < 0 then
    (L0 (H.next) (0) (true) H_3 r)
    else
    (∃ (t46_1 : Int), ldc H_3 H.next 3 = some (.int .i64 t46_1) ∧
    (if t46_1 > 255 then
    (L0 (H.next) (0) (true) H_3 r)
    else
    (∃ (t51a_1 : Option Addr) (t51n_1 : Nat) (t51k_1 : Nat), ldc H_3 H.next 4 = some (.slice t51a_1 t51n_1 t51k_1) ∧
    (if ((t51n_1 : Nat) : Int) > 4 then
    (L0 (H.next) (0) (true) H_3 r)
    else
    (∃ (t57a_1 : Option Addr) (t57n_1 : Nat) (t57k_1 : Nat), ldc H_3 H.next 5 = some (.slice t57a_1 t57n_1 t57k_1) ∧
    (L0 (H.next) (0) ((decide (((t57n_1 : Nat) : Int) > 64))) H_3 r)))))))))))
    else
    (L0 (H.next) (0) (true) H_3 r))))))
    else
    (L0 (H.next) (0) (true) H_2 r)))) → Ce 35 [f.agg] H = some r := by
    intro r z
    refine call ⟨_, e1, _, rldc' g1 0, ?_⟩
    rw [if_neg k0]
    refine ⟨_, rldc' g1 0, ?_⟩
    rw [if_neg k5]
    exact z
  have fin : fnode f.s → (fnode f.d ∨ f.d = 64) → ∃ H', (∃ (t34 : Int), ldc H1 H.next 2 = some (.int .i64 t34) ∧
    (∃ (t36 : Int), ldc H1 H.next 1 = some (.int .i64 t36) ∧
    (if t34 = t36 then
    (L0 (H.next) (0) (true) H1 (.bool (decide (mayF f.v)), H'))
    else
    (∃ (t41 : Int), ldc H1 H.next 3 = some (.int .i64 t41) ∧
    (if t41 < 0 then
    (L0 (H.next) (0) (true) H1 (.bool (decide (mayF f.v)), H'))
    else
    (∃ (t46 : Int), ldc H1 H.next 3 = some (.int .i64 t46) ∧
    (if t46 > 255 then
    (L0 (H.next) (0) (true) H1 (.bool (decide (mayF f.v)), H'))
    else
    (∃ (t51a : Option Addr) (t51n : Nat) (t51k : Nat), ldc H1 H.next 4 = some (.slice t51a t51n t51k) ∧
    (if ((t51n : Nat) : Int) > 4 then
    (L0 (H.next) (0) (true) H1 (.bool (decide (mayF f.v)), H'))
    else
    (∃ (t57a : Option Addr) (t57n : Nat) (t57k : Nat), ldc H1 H.next 5 = some (.slice t57a t57n t57k) ∧
    (L0 (H.next) (0) ((decide (((t57n : Nat) : Int) > 64))) H1 (.bool (decide (mayF f.v)), H')))))))))))) ∧ Keep H.next H H' := by
    intro m1 m2
    by_cases m3 : f.d = f.s
    · obtain ⟨H', z, k'⟩ := bad fun m => m.2.2.1 m3
      refine ⟨H', ⟨_, rldc' g1 2, _, rldc' g1 1, ?_⟩, k'⟩
      rw [if_pos m3]; exact z
    by_cases m4 : f.q < 0
    · obtain ⟨H', z, k'⟩ := bad fun m => by have : 0 ≤ f.q := m.2.2.2.1.1; omega
      refine ⟨H', ⟨_, rldc' g1 2, _, rldc' g1 1, ?_⟩, k'⟩
      rw [if_neg m3]
      refine ⟨_, rldc' g1 3, ?_⟩
      rw [if_pos m4]; exact z
    by_cases m5 : f.q > 255
    · obtain ⟨H', z, k'⟩ := bad fun m => by have : f.q ≤ 255 := m.2.2.2.1.2; omega
      refine ⟨H', ⟨_, rldc' g1 2, _, rldc' g1 1, ?_⟩, k'⟩
      rw [if_neg m3]
      refine ⟨_, rldc' g1 3, ?_⟩
      rw [if_neg m4]
      refine ⟨_, rldc' g1 3, ?_⟩
      rw [if_pos m5]; exact z
    by_cases m6 : (f.l.length : Int) > 4
    · obtain ⟨H', z, k'⟩ := bad fun m => by have := m.2.2.2.2.1.1; simp at this; omega
      refine ⟨H', ⟨_, rldc' g1 2, _, rldc' g1 1, ?_⟩, k'⟩
      rw [if_neg m3]
      refine ⟨_, rldc' g1 3, ?_⟩
      rw [if_neg m4]
      refine ⟨_, rldc' g1 3, ?_⟩
      rw [if_neg m5]
      refine ⟨_, _, _, rldc' g1 4, ?_⟩
      rw [if_pos m6]; exact z
    by_cases m7 : (f.dt.length : Int) > 64
    · obtain ⟨H', z, k'⟩ := bad fun m => by have : f.dt.length ≤ 64 := m.2.2.2.2.2.1; omega
      refine ⟨H', ⟨_, rldc' g1 2, _, rldc' g1 1, ?_⟩, k'⟩
      rw [if_neg m3]
      refine ⟨_, rldc' g1 3, ?_⟩
      rw [if_neg m4]
      refine ⟨_, rldc' g1 3, ?_⟩
      rw [if_neg m5]
      refine ⟨_, _, _, rldc' g1 4, ?_⟩
      rw [if_neg m6]
      refine ⟨_, _, _, rldc' g1 5, ?_⟩
      rw [decide_eq_true m7]; exact z
    · obtain ⟨H', z, k'⟩ := l1 h1 g1 (by omega) (by omega) f.l 0 H1 rfl (by omega) (Keep.refl _ _)
      have e : decide ((∀ e ∈ f.l, mayE e.v) ∧ saysP f.kd f.d (f.l.map Ie.v) f.dt) = decide (mayF f.v) := decide_eq_decide.2 ⟨fun m => ⟨m1, m2, m3, ⟨show 0 ≤ f.q by omega, show f.q ≤ 255 by omega⟩, ⟨by simp; omega, fun v hv => by obtain ⟨e, he, rfl⟩ := List.mem_map.1 hv; exact m.1 e he⟩, (show f.dt.length ≤ 64 by omega), m.2⟩, fun m => ⟨fun e he => m.2.2.2.2.1.2 _ (List.mem_map.2 ⟨e, he, rfl⟩), m.2.2.2.2.2.2⟩⟩
      rw [e] at z
      refine ⟨H', ⟨_, rldc' g1 2, _, rldc' g1 1, ?_⟩, k1.trans (k'.weak k1.next)⟩
      rw [if_neg m3]
      refine ⟨_, rldc' g1 3, ?_⟩
      rw [if_neg m4]
      refine ⟨_, rldc' g1 3, ?_⟩
      rw [if_neg m5]
      refine ⟨_, _, _, rldc' g1 4, ?_⟩
      rw [if_neg m6]
      refine ⟨_, _, _, rldc' g1 5, ?_⟩
      rw [decide_eq_false m7]
      refine L0_step ?_
      rw [if_neg (by simp)]
      exact ⟨_, _, _, rldc' g1 4, z⟩
  by_cases m1 : fnode f.s
  · by_cases m2 : fnode f.d
    · obtain ⟨H', z, k'⟩ := fin m1 (.inl m2)
      refine ⟨H', start _ ⟨_, rldc' g1 1, _, _, F67.ok _ _, ?_⟩, k'⟩
      rw [if_pos (by simpa using m1)]
      refine ⟨_, rldc' g1 2, _, _, F67.ok _ _, ?_⟩
      rw [if_pos (by simpa using m2)]
      exact z
    · by_cases m3 : f.d = 64
      · obtain ⟨H', z, k'⟩ := fin m1 (.inr m3)
        refine ⟨H', start _ ⟨_, rldc' g1 1, _, _, F67.ok _ _, ?_⟩, k'⟩
        rw [if_pos (by simpa using m1)]
        refine ⟨_, rldc' g1 2, _, _, F67.ok _ _, ?_⟩
        rw [if_neg (by simpa using m2)]
        refine ⟨_, rldc' g1 2, ?_⟩
        rw [if_pos m3]
        exact z
      · obtain ⟨H', z, k'⟩ := bad fun m => by rcases m.2.1 with h | h; exact m2 h; exact m3 h
        refine ⟨H', start _ ⟨_, rldc' g1 1, _, _, F67.ok _ _, ?_⟩, k'⟩
        rw [if_pos (by simpa using m1)]
        refine ⟨_, rldc' g1 2, _, _, F67.ok _ _, ?_⟩
        rw [if_neg (by simpa using m2)]
        refine ⟨_, rldc' g1 2, ?_⟩
        rw [if_neg m3]
        exact z
  · obtain ⟨H', z, k'⟩ := bad fun m => m1 m.1
    refine ⟨H', start _ ⟨_, rldc' g1 1, _, _, F67.ok _ _, ?_⟩, k'⟩
    rw [if_neg (by simpa using m1)]
    exact z
end F35
namespace F28
theorem ok {H : Heap} {f : Fm} (h : FmOk H f) (hb : IsB f.dt) : ∃ a' k' H', Ce 28 [f.agg] H = some (.tuple #[.slice a' (encFO f.v).length k', .int .i64 (if mayF f.v then 0 else 1)], H') ∧ OwnI .u8 H.next H' a' (encFO f.v).length k' (encFO f.v) ∧ Keep H.next H H' := by
  obtain ⟨H1, e1, n1, g1, k1⟩ := one H f.cells
  obtain ⟨H2, c2, k2⟩ := F35.ok (h.keep k1)
  have k02 := k1.trans (k2.weak k1.next)
  have n2 := k2.next
  have g2 : H2.get H.next = .row f.cells true := by rw [k2.get _ (by omega)]; exact g1
  by_cases hm : mayF f.v
  · rw [if_pos hm, encFO_may hm]
    have h2 := (h.keep k1).keep k2
    obtain ⟨a3, k3', H3, c3, o3, k3⟩ := F20.ok h2.ies h2.ok
    have hok : okL (f.l.map Ie.v) := hm.2.2.2.2.1
    have en : encO (f.l.map Ie.v) = encL (f.l.map Ie.v) := if_pos hok
    rw [en] at c3 o3
    have hxl := encL_len hok
    have hdl : f.dt.length ≤ 64 := hm.2.2.2.2.2.1
    have n3 := k3.next
    have g3 : H3.get H.next = .row f.cells true := by rw [k3.get _ (by omega)]; exact g2
    have k03 := k02.trans (k3.weak k02.next)
    have hkd : 1 ≤ f.kd ∧ f.kd ≤ 5 := mayF_kd hm
    have m1 : fnode f.s := hm.1
    have m2 : fnode f.d ∨ f.d = 64 := hm.2.1
    have m3 : 0 ≤ f.q ∧ f.q ≤ 255 := hm.2.2.2.1
    have d0 : 0 ≤ f.d ∧ f.d < 256 := by rcases m2 with ⟨a, b⟩ | h2 <;> omega
    have s0 : 0 ≤ f.s ∧ f.s < 256 := ⟨m1.1, by have := m1.2; omega⟩
    have o4 := OwnI.new (K := .u8) H3 [197, IntKind.wrap .u8 f.kd, IntKind.wrap .u8 f.s, IntKind.wrap .u8 f.d, IntKind.wrap .u8 f.q, IntKind.wrap .u8 ((encL (f.l.map Ie.v)).length : Int)]
    have k4 : Keep H3.next H3 (H3.push (.row ([197, IntKind.wrap .u8 f.kd, IntKind.wrap .u8 f.s, IntKind.wrap .u8 f.d, IntKind.wrap .u8 f.q, IntKind.wrap .u8 ((encL (f.l.map Ie.v)).length : Int)].map (Value.int .u8)) true)) := Keep.push _ (Nat.le_refl _)
    generalize e4 : H3.push (.row ([197, IntKind.wrap .u8 f.kd, IntKind.wrap .u8 f.s, IntKind.wrap .u8 f.d, IntKind.wrap .u8 f.q, IntKind.wrap .u8 ((encL (f.l.map Ie.v)).length : Int)].map (Value.int .u8)) true) = H4 at o4 k4
    rw [wrap8_id (show 0 ≤ f.kd ∧ f.kd < 256 by omega), wrap8_id s0, wrap8_id d0, wrap8_id (show 0 ≤ f.q ∧ f.q < 256 by omega), wrap8_id (show (0 : Int) ≤ (encL (f.l.map Ie.v)).length ∧ ((encL (f.l.map Ie.v)).length : Int) < 256 by omega)] at o4
    have n4 := k4.next
    obtain ⟨a5, k5', H5, c5, o5, k5⟩ := OwnI.app 1 o4 (show By H4 a3 (encL (f.l.map Ie.v)).length k3' (encL (f.l.map Ie.v)) from o3.sl.keep k4) n4 (by simp; omega) (by simp; omega)
    have n5 := k5.next
    have g5 : H5.get H.next = .row f.cells true := by rw [k5.get _ (by omega), k4.get _ (by omega)]; exact g3
    have h5 := ((h2.keep k3).keep k4)
    obtain ⟨H6, e6, m6, g6, k6⟩ := one H5 [.int .u8 (IntKind.wrap .u8 ((f.dt.length : Nat) : Int))]
    have s6 : Ints .u8 H6 (some ⟨H5.next, 0, none⟩) 1 (UNK 1) [IntKind.wrap .u8 ((f.dt.length : Nat) : Int)] := Sl.ofRow g6 (by omega)
    rw [wrap8_id (show (0 : Int) ≤ (f.dt.length : Int) ∧ (f.dt.length : Int) < 256 by omega)] at s6
    obtain ⟨a7, k7', H7, c7, o7, k7⟩ := OwnI.app 1 (o5.keep k6) s6 (by omega) (by simp; omega) (by simp; omega)
    have k37 : Keep H3.next H3 H7 := ((k4.trans k5).trans (k6.weak (by omega))).trans k7
    have n7 := k7.next
    obtain ⟨a8, k8', H8, c8, o8, k8⟩ := OwnI.app 1 o7 ((h2.keep k3).keep k37).dts (by omega) (by simp; omega) (by simp; omega)
    have g6' : H6.get H.next = .row f.cells true := by rw [k6.get _ (by omega)]; exact g5
    have g7 : H7.get H.next = .row f.cells true := by rw [k7.get _ (by omega)]; exact g6'
    have eB : [197, f.kd, f.s, f.d, f.q, ((encL (f.l.map Ie.v)).length : Int)] ++ encL (f.l.map Ie.v) ++ [(f.dt.length : Int)] ++ f.dt = bodyF f.v := by
      rw [bodyF_eq]; simp
    have eN : [197, f.kd, f.s, f.d, f.q, ((encL (f.l.map Ie.v)).length : Int)].length + (encL (f.l.map Ie.v)).length + 1 + f.dt.length = (bodyF f.v).length := by rw [← eB, List.length_append, List.length_append, List.length_append]; rfl
    rw [eN] at c8 o8
    rw [eB] at o8
    have n8 := k8.next
    have hbl : (bodyF f.v).length = (encL (f.l.map Ie.v)).length + f.dt.length + 7 := bodyF_len f.v
    obtain ⟨a9, k9', H9, c9, o9, k9⟩ := F29.ok (show By H8 a8 (bodyF f.v).length k8' (bodyF f.v) from o8.sl) (by omega)
    have el : (encF f.v).length = (bodyF f.v).length + 2 := crcA_len _
    rw [el]
    have k38 := k37.trans k8
    refine ⟨a9, k9', H9, call ⟨_, e1, _, _, _, _, _, _, _, _, _, _, rldAll g1, _, _, c2, ?_⟩, o9.weak (by omega), (k03.trans (k38.weak k03.next)).trans (k9.weak (by have := k38.next; omega))⟩
    rw [if_pos (by simpa using hm)]
    exact ⟨_, _, _, rldc' g2 4, _, _, _, _, _, c3, _, rldc' g3 0, _, rldc' g3 1, _, rldc' g3 2, _, rldc' g3 3, _, e4.symm, _, _, _, _, c5, _, _, _, rldc' g5 5, _, e6, _, _, _, _, c7, _, _, _, rldc' g5 5, _, _, _, _, c8, rldc' g6' 5, rldc' g7 5, _, _, _, _, c9, rfl⟩
  · rw [if_neg hm, encFO_no hm]
    refine ⟨none, 0, H2, call ⟨_, e1, _, _, _, _, _, _, _, _, _, _, rldAll g1, _, _, c2, ?_⟩, OwnI.nil, k02⟩
    rw [if_neg (by simpa using hm)]
    rfl
end F28
namespace F31
theorem zero {H0 H : Heap} {p z : Nat} {us : List Value} {er : Int} {L : Value × Heap → Prop} (g : H.get p = .row us true) (hl : us.length = 6) (hp : p < H.next) (hp0 : H0.next ≤ p) (gz : H.get z = .row fm0.cells true) (k : Keep H0.next H0 H)
    (i : ∀ H', ldAll H z 0 fm0.cells → stc H p 0 fm0.cells = some H' → ldAll H' p 0 fm0.cells → L (.tuple #[fm0.agg, .int .i64 er], H')) : F30.Post H0 (vf0, er) L :=
  F30.zero g hl hp hp0 k fun H' s l => i H' (rldAll gz) s l
theorem l0 {H0 G : Heap} {pr z q : Nat} {ea da : Option Addr} {ek dk : Nat} {xs dt : List Int} {c1 c2 c3 c4 : Int} (kG : Keep H0.next H0 G) (hpr : H0.next ≤ pr) (hq : H0.next ≤ q) (hne : pr ≠ q) (hzq : z ≠ q) (hzl : z < G.next) (hprl : pr < G.next) (hql : q < G.next) {us : List Value} (gr : G.get pr = .row us true) (hl : us.length = 6) (gz : G.get z = .row fm0.cells true)
    (gq : G.get q = .row [.int .i64 c1, .int .i64 c2, .int .i64 c3, .int .i64 c4, .slice none 0 0, .slice da dt.length dk] true) (hx : By G ea xs.length ek xs) (hxb : IsB xs) (hxl : xs.length ≤ 1000000) (hd : By G da dt.length dk dt) (hdl : dt.length ≤ 1000000) (hdq : ∀ b, In1 da b → b ≠ pr ∧ b ≠ q) :
    F30.Post H0 (if (decL xs).2 ≠ 0 then (vf0, (decL xs).2) else if mayF ⟨c1, c2, c3, c4, (decL xs).1, dt⟩ then (⟨c1, c2, c3, c4, (decL xs).1, dt⟩, 0) else (vf0, 3)) (L0 pr 0 z 0 q 0 ea xs.length ek false G) := by
  obtain ⟨l, a2, k2', H2, cc2, v2, s2, ok2, k2, fa, fe⟩ := F24.ok hx hxb hxl
  have n2 := k2.next
  have nG := kG.next
  have gq2 : H2.get q = .row [.int .i64 c1, .int .i64 c2, .int .i64 c3, .int .i64 c4, .slice none 0 0, .slice da dt.length dk] true := by rw [k2.get _ hql]; exact gq
  have gr2 : H2.get pr = .row us true := by rw [k2.get _ hprl]; exact gr
  have gz2 : H2.get z = .row fm0.cells true := by rw [k2.get _ hzl]; exact gz
  have k02 := kG.trans (k2.weak nG)
  rw [← v2]
  by_cases he : (decL xs).2 = 0
  · rw [if_neg (fun c => c he)]
    rw [he] at cc2
    obtain ⟨H3, s3, g3, f3, n3⟩ := rowSet (i := 4) (.slice a2 l.length k2') gq2 (by omega) (by simp)
    have gr3 : H3.get pr = .row us true := f3.at (by omega) hne gr2
    have gz3 : H3.get z = .row fm0.cells true := f3.at (by omega) hzq gz2
    have k03 : Keep H0.next H0 H3 := k02.trans (f3.kp (by omega) hq)
    have hf3 : FmOk H3 ⟨c1, c2, c3, c4, l, a2, k2', dt, da, dk⟩ := ⟨s2.chg f3 fun b hb h => by have := fa b hb; have h : b = q := h; omega, fun e hel => ⟨(ok2 e hel).s.chg f3 fun b hb h => by have := fe e hel b hb; have h : b = q := h; omega, (ok2 e hel).sm⟩, Sl.chg (hd.keep k2) f3 fun b hb h => (hdq b hb).2 h, by
      have h1 : l.length = (decL xs).1.length := by rw [← v2, List.length_map]
      have := decL_len xs
      show l.length ≤ _
      omega, by show dt.length ≤ _; omega⟩
    obtain ⟨H4, c4', k4⟩ := F35.ok hf3
    have n4 := k4.next
    have g4 : H4.get q = .row (Fm.cells ⟨c1, c2, c3, c4, l, a2, k2', dt, da, dk⟩) true := by rw [k4.get _ (by omega)]; exact g3
    have gr4 : H4.get pr = .row us true := by rw [k4.get _ (by omega)]; exact gr3
    have gz4 : H4.get z = .row fm0.cells true := by rw [k4.get _ (by omega)]; exact gz3
    have k04 := k03.trans (k4.weak k03.next)
    by_cases hm : mayF (Fm.v ⟨c1, c2, c3, c4, l, a2, k2', dt, da, dk⟩)
    · rw [if_pos hm]
      obtain ⟨H5, s5, g5, f5, n5⟩ := rowAll (us := Fm.cells ⟨c1, c2, c3, c4, l, a2, k2', dt, da, dk⟩) gr4 (by omega) (by rw [hl]; rfl)
      have hf4 := hf3.keep k4
      refine ⟨⟨c1, c2, c3, c4, l, a2, k2', dt, da, dk⟩, H5, L0_step ?_, rfl, ⟨hf4.ies.chg f5 fun b hb h => by have := fa b hb; have h : b = pr := h; omega, fun e hel => ⟨(hf4.ok e hel).s.chg f5 fun b hb h => by have := fe e hel b hb; have h : b = pr := h; omega, (hf4.ok e hel).sm⟩, Sl.chg hf4.dts f5 fun b hb h => (hdq b hb).1 h, hf4.ls, hf4.ds⟩, k04.trans (f5.kp k04.next hpr)⟩
      rw [if_neg (by simp)]
      refine ⟨_, _, _, _, _, cc2, ?_⟩
      rw [if_pos rfl]
      refine ⟨H3, s3, _, _, _, _, _, _, _, _, _, _, rldAll g3, _, _, c4', ?_⟩
      rw [if_pos (by simpa using hm)]
      exact ⟨_, _, _, _, _, _, _, _, _, _, rldAll g4, H5, s5, _, _, _, _, _, _, _, _, _, _, rldAll g5, rfl⟩
    · rw [if_neg hm]
      refine zero gr4 hl (by omega) hpr gz4 k04 fun H' lz s' l' => L0_step ?_
      rw [if_neg (by simp)]
      refine ⟨_, _, _, _, _, cc2, ?_⟩
      rw [if_pos rfl]
      refine ⟨H3, s3, _, _, _, _, _, _, _, _, _, _, rldAll g3, _, _, c4', ?_⟩
      rw [if_neg (by simpa using hm)]
      exact ⟨_, _, _, _, _, _, _, _, _, _, lz, H', s', _, _, _, _, _, _, _, _, _, _, l', rfl⟩
  · rw [if_pos he]
    refine zero gr2 hl (by omega) hpr gz2 k02 fun H' lz s' l' => L0_step ?_
    rw [if_neg (by simp)]
    refine ⟨_, _, _, _, _, cc2, ?_⟩
    rw [if_neg he]
    exact ⟨_, _, _, _, _, _, _, _, _, _, lz, H', s', _, _, _, _, _, _, _, _, _, _, l', rfl⟩
theorem l0t {H0 G : Heap} {pr z q : Nat} {ea : Option Addr} {en ek : Nat} (kG : Keep H0.next H0 G) (hpr : H0.next ≤ pr) (hprl : pr < G.next) {us : List Value} (gr : G.get pr = .row us true) (hl : us.length = 6) (gz : G.get z = .row fm0.cells true) : F30.Post H0 (vf0, 3) (L0 pr 0 z 0 q 0 ea en ek true G) := by
  refine zero gr hl hprl hpr gz kG fun H' lz s' l' => L0_step ?_
  rw [if_pos rfl]
  exact ⟨_, _, _, _, _, _, _, _, _, _, lz, H', s', _, _, _, _, _, _, _, _, _, _, l', rfl⟩
theorem ok {H : Heap} {s : Option Addr} {sn sk : Nat} {bs : List Int} (hs : By H s sn sk bs) (hb : IsB bs) (hbl : bs.length ≤ 1000000) : F30.Post H (decF bs) (fun r => Ce 31 [.slice s sn sk] H = some r) := by
  have hl := hs.ln
  obtain ⟨H1, H2, e1, e2, m1, m2, g1, g2, g2z, k1, k2⟩ := two H fm0.cells fm0.cells
  obtain ⟨H3, s3, g3z, f3, n3⟩ := rowAll (us := fm0.cells) g2z (by omega) rfl
  have g3 : H3.get H.next = .row fm0.cells true := f3.at (by omega) (by omega) g2
  have k03 : Keep H.next H H3 := k2.trans (f3.kp (by omega) (by omega))
  unfold decF
  by_cases b1 : bs.length < 9
  · rw [if_pos b1]
    refine zero g3 rfl (by omega) (Nat.le_refl _) g3z k03 fun H' lz s' l' => call ⟨_, e1, _, e2, H3, s3, ?_⟩
    rw [if_pos (by omega)]
    exact ⟨_, _, _, _, _, _, _, _, _, _, lz, H', s', _, _, _, _, _, _, _, _, _, _, l', rfl⟩
  rw [if_neg b1]
  have h3 : By H3 s sn sk bs := hs.keep k03
  obtain ⟨H5, c5, k5⟩ := F61.ok h3 hb (by omega)
  have n5 := k5.next
  have g5 : H5.get H.next = .row fm0.cells true := by rw [k5.get _ (by omega)]; exact g3
  have g5z : H5.get H1.next = .row fm0.cells true := by rw [k5.get _ (by omega)]; exact g3z
  have k05 := k03.trans (k5.weak k03.next)
  cases hgd : goodB bs with
  | false =>
    rw [hgd] at c5
    rw [if_pos rfl]
    refine zero g5 rfl (by omega) (Nat.le_refl _) g5z k05 fun H' lz s' l' => call ⟨_, e1, _, e2, H3, s3, ?_⟩
    rw [if_neg (by omega)]
    refine ⟨_, _, c5, ?_⟩
    rw [if_neg (by simp)]
    exact ⟨_, _, _, _, _, _, _, _, _, _, lz, H', s', _, _, _, _, _, _, _, _, _, _, l', rfl⟩
  | true =>
    rw [hgd] at c5
    rw [if_neg (by simp)]
    have h5 : By H5 s sn sk bs := h3.keep k5
    obtain ⟨a4, k4', p4, s4⟩ := Ints.part h5 none (some ((sn - 2 : Nat) : Int)) 0 (sn - 2) (.inl ⟨rfl, rfl⟩) (.inr rfl) (by omega) (by omega)
    simp only [List.drop_zero, Nat.sub_zero] at p4 s4
    have hyb : IsB (bs.take (sn - 2)) := fun x hx => hb x (List.mem_of_mem_take hx)
    have hyl : (bs.take (sn - 2)).length = sn - 2 := by simp; omega
    rw [show bs.length - 2 = sn - 2 by omega]
    have al : ∀ b, In1 a4 b → b < H.next := fun b hb' => by
      have := psl_sub p4 b hb'
      exact hs.lt this
    have mk := RFm.mk1 (Q := fun b => b < H.next) s4 (by omega) al
    have k6 : Keep H5.next H5 (H5.push (.row [.slice a4 (sn - 2) k4', .int .i64 0] true)) := Keep.push _ (Nat.le_refl _)
    generalize e6 : H5.push (.row [.slice a4 (sn - 2) k4', .int .i64 0] true) = H6 at mk k6
    have n6 : H6.next = H5.next + 1 := by rw [← e6]; rfl
    generalize hys : bs.take (sn - 2) = ys at *
    have r6 : RS (fun b => b < H.next) H6 H5.next ys 0 := by
      unfold RS rfX rfE
      rw [if_pos (by omega), if_pos (by omega), List.drop_zero]
      exact mk
    obtain ⟨H7, c7, r7, f7⟩ := RS.u8 hyb r6
    obtain ⟨H8, c8, r8, f8⟩ := RS.u8 hyb r7
    obtain ⟨H9, c9, r9, f9⟩ := RS.u8 hyb r8
    obtain ⟨H10, c10, r10, f10⟩ := RS.u8 hyb r9
    obtain ⟨H11, c11, r11, f11⟩ := RS.u8 hyb r10
    have fA : Chg (fun b => b = H5.next) H6 H11 := (((f7.trans f8 fun _ _ h => h).trans f9 fun _ _ h => h).trans f10 fun _ _ h => h).trans f11 fun _ _ h => h
    have nA := fA.next
    have g11 : H11.get H.next = .row fm0.cells true := by rw [fA.get _ (by omega) (by omega), k6.get _ (by omega)]; exact g5
    have g11z : H11.get H1.next = .row fm0.cells true := by rw [fA.get _ (by omega) (by omega), k6.get _ (by omega)]; exact g5z
    have kc : ∀ {X Y : Heap}, Keep H.next H X → Chg (fun b => b = H5.next) X Y → Keep H.next H Y := fun kx c => kx.trans (c.kp kx.next (by omega))
    have k011 := kc (k05.trans (k6.weak k05.next)) fA
    obtain ⟨H13, s13, g13, k13, n13⟩ := fill H11 fm0.cells (Fm.cells ⟨ys.getD 1 0, ys.getD 2 0, ys.getD 3 0, ys.getD 4 0, [], none, 0, [], none, 0⟩) rfl
    have r13 := r11.new k13
    have k013 := k011.trans (k13.weak k011.next)
    obtain ⟨H14, c14, r14, f14⟩ := RS.u8 hyb r13
    obtain ⟨_, y0, y1⟩ := stV_one hyb 5
    have e5 : (((ys.getD 5 0).toNat : Nat) : Int) = ys.getD 5 0 := by omega
    obtain ⟨ea, ek, H15, c15, o15, r15, f15⟩ := r14.raw (ys.getD 5 0).toNat
    rw [e5] at c15
    obtain ⟨H16, c16, r16, f16⟩ := RS.u8 hyb r15
    rw [show 0 + 1 + 1 + 1 + 1 + 1 + 1 + (ys.getD 5 0).toNat = 6 + (ys.getD 5 0).toNat by omega] at c16 r16
    obtain ⟨_, z0, z1⟩ := stV_one hyb (6 + (ys.getD 5 0).toNat)
    have e7 : (((ys.getD (6 + (ys.getD 5 0).toNat) 0).toNat : Nat) : Int) = ys.getD (6 + (ys.getD 5 0).toNat) 0 := by omega
    obtain ⟨da, dk, H17, c17, o17, r17, f17⟩ := r16.raw (ys.getD (6 + (ys.getD 5 0).toNat) 0).toNat
    rw [e7] at c17
    have n14 := f14.next
    have n15 := f15.next
    have n16 := f16.next
    have n17 := f17.next
    have fB : Chg (fun b => b = H5.next) H13 H17 := ((f14.trans f15 fun _ _ h => h).trans f16 fun _ _ h => h).trans f17 fun _ _ h => h
    have g17 : H17.get H.next = .row fm0.cells true := by rw [fB.get _ (by omega) (by omega), k13.get _ (by omega)]; exact g11
    have g17z : H17.get H1.next = .row fm0.cells true := by rw [fB.get _ (by omega) (by omega), k13.get _ (by omega)]; exact g11z
    have g17q : H17.get H11.next = .row (Fm.cells ⟨ys.getD 1 0, ys.getD 2 0, ys.getD 3 0, ys.getD 4 0, [], none, 0, [], none, 0⟩) true := by rw [fB.get _ (by omega) (by omega)]; exact g13
    have k017 := kc k013 fB
    rw [show 0 + 1 + 1 + 1 + 1 + 1 + 1 = 6 by omega] at c15 o15
    rw [show 6 + (ys.getD 5 0).toNat + 1 = 7 + (ys.getD 5 0).toNat by omega] at c17 o17 r17
    obtain ⟨H18, s18, g18, f18, n18⟩ := rowSet (i := 5) (.slice da (rfT ys (7 + (ys.getD 5 0).toNat) (ys.getD (6 + (ys.getD 5 0).toNat) 0).toNat).length dk) g17q (by omega) (by simp)
    have g18r : H18.get H.next = .row fm0.cells true := f18.at (by omega) (by omega) g17
    have g18z : H18.get H1.next = .row fm0.cells true := f18.at (by omega) (by omega) g17z
    have k018 := k017.trans (f18.kp k017.next (by omega))
    have r18 : RS (fun b => b < H.next) H18 H5.next ys (7 + (ys.getD 5 0).toNat + (ys.getD (6 + (ys.getD 5 0).toNat) 0).toNat) := r17.chg f18 (by omega) fun b hb' => by omega
    have c19 := r18.end_
    have hxs : By H18 ea (rfT ys 6 (ys.getD 5 0).toNat).length ek (rfT ys 6 (ys.getD 5 0).toNat) := by
      have q1 : ∀ b, In1 ea b → H14.next ≤ b := fun b hb => (o15.lt hb).1
      have t16 := o15.sl.chg f16 fun b hb h => by have := q1 b hb; have h : b = H5.next := h; omega
      have t17 := t16.chg f17 fun b hb h => by have := q1 b hb; have h : b = H5.next := h; omega
      exact t17.chg f18 fun b hb h => by have := q1 b hb; have h : b = H11.next := h; omega
    have hds : By H18 da (rfT ys (7 + (ys.getD 5 0).toNat) (ys.getD (6 + (ys.getD 5 0).toNat) 0).toNat).length dk (rfT ys (7 + (ys.getD 5 0).toNat) (ys.getD (6 + (ys.getD 5 0).toNat) 0).toNat) :=
      o17.sl.chg f18 fun b hb h => by have := (o17.lt hb).1; have h : b = H11.next := h; omega
    have start : ∀ r, (if ys.getD 0 0 = 197 then (∃ (t51 : Int) (H_19 : Heap), Ce 56 [.pointer (some ⟨H5.next, 0, none⟩)] H18 = some (.int .i64 t51, H_19) ∧ L0 H.next 0 H1.next 0 H11.next 0 ea (rfT ys 6 (ys.getD 5 0).toNat).length ek (!(t51 == 0)) H_19 r) else L0 H.next 0 H1.next 0 H11.next 0 ea (rfT ys 6 (ys.getD 5 0).toNat).length ek true H18 r) → Ce 31 [.slice s sn sk] H = some r := by
      intro r z
      refine call ⟨_, e1, _, e2, H3, s3, ?_⟩
      rw [if_neg (by omega)]
      refine ⟨_, _, c5, ?_⟩
      rw [if_pos rfl]
      refine ⟨_, _, _, ?_, _, e6.symm, _, _, c7, _, _, c8, _, _, c9, _, _, c10, _, _, c11, _, rfl, H13, s13, _, _, c14, _, _, _, _, c15, _, _, c16, _, _, _, _, c17, H18, s18, z⟩
      rw [i64 (by omega) (by omega), show ((sn : Int) - 2) = ((sn - 2 : Nat) : Int) by omega]
      exact p4
    unfold decY
    by_cases q1 : ys.getD 0 0 = 197
    · by_cases q2 : 7 + (ys.getD 5 0).toNat + (ys.getD (6 + (ys.getD 5 0).toNat) 0).toNat = ys.length
      · rw [if_neg (fun c => c ⟨q1, q2⟩)]
        rw [if_neg (by omega), if_neg (by omega)] at c19
        have ll := F30.rfT_len ys 6 (ys.getD 5 0).toNat
        have ld := F30.rfT_len ys (7 + (ys.getD 5 0).toNat) (ys.getD (6 + (ys.getD 5 0).toNat) 0).toNat
        refine F30.Post.imp (l0 (H0 := H) (G := H18) (pr := H.next) (z := H1.next) (q := H11.next) k018 (Nat.le_refl _) (by omega) (by omega) (by omega) (by omega) (by omega) (by omega) g18r rfl g18z g18 hxs (F30.rfT_isB hyb _ _) (by omega) hds (by omega) fun b hb => by have := (o17.lt hb).1; omega) fun r z => start r ?_
        rw [if_pos q1]
        exact ⟨_, _, c19, z⟩
      · rw [if_pos (fun c => q2 c.2)]
        refine F30.Post.imp (l0t (H0 := H) (G := H18) (pr := H.next) (z := H1.next) (q := H11.next) (ea := ea) (en := (rfT ys 6 (ys.getD 5 0).toNat).length) (ek := ek) k018 (Nat.le_refl _) (by omega) g18r rfl g18z) fun r z => start r ?_
        rw [if_pos q1]
        refine ⟨_, _, c19, ?_⟩
        have : (!((if ys.length < 7 + (ys.getD 5 0).toNat + (ys.getD (6 + (ys.getD 5 0).toNat) 0).toNat then (2 : Int) else if 7 + (ys.getD 5 0).toNat + (ys.getD (6 + (ys.getD 5 0).toNat) 0).toNat < ys.length then 3 else 0) == 0)) = true := by
          by_cases w1 : ys.length < 7 + (ys.getD 5 0).toNat + (ys.getD (6 + (ys.getD 5 0).toNat) 0).toNat
          · rw [if_pos w1]; rfl
          · rw [if_neg w1, if_pos (by omega)]; rfl
        rw [this]
        exact z
    · rw [if_pos (fun c => q1 c.1)]
      refine F30.Post.imp (l0t (H0 := H) (G := H18) (pr := H.next) (z := H1.next) (q := H11.next) (ea := ea) (en := (rfT ys 6 (ys.getD 5 0).toNat).length) (ek := ek) k018 (Nat.le_refl _) (by omega) g18r rfl g18z) fun r z => start r ?_
      rw [if_neg q1]
      exact z
end F31
theorem decF_dt {bs : List Int} (hb : IsB bs) : IsB (decF bs).1.dt := by
  unfold decF
  split
  · exact isB_nil
  split
  · exact isB_nil
  unfold decY
  split
  · exact isB_nil
  split
  · exact isB_nil
  split
  · exact F30.rfT_isB (fun x hx => hb x (List.mem_of_mem_take hx)) _ _
  · exact isB_nil
namespace F7
theorem both {H : Heap} {s : Option Addr} {sn sk : Nat} {ys : List Int} (hs : By H s sn sk ys) (hb : IsB ys) (hl : ys.length ≤ 1000000) : ∃ (p : Fm) (er : Int) (H1 H3 : Heap) (q : Fm) (H4 H6 H7 : Heap), Ce 30 [.slice s sn sk] H = some (.tuple #[p.agg, .int .i64 er], H1) ∧ stc (H1.push (.row fm0.cells true)) H1.next 0 p.cells = some H3 ∧ Ce 31 [.slice s sn sk] H3 = some (.tuple #[q.agg, .int .i64 er], H4) ∧ stc (H4.push (.row fm0.cells true)) H4.next 0 q.cells = some H6 ∧ ldAll H6 H1.next 0 p.cells ∧ ldAll H6 H4.next 0 q.cells ∧ Ce 32 [p.agg, q.agg] H6 = some (.bool true, H7) ∧ Keep H.next H H7 := by
  obtain ⟨p, H1, c1, v1, ok1, k1⟩ := F30.ok hs hb hl
  obtain ⟨H3, s3, g3, k3, n3⟩ := fill H1 fm0.cells p.cells rfl
  have k13 := k1.trans (k3.weak k1.next)
  obtain ⟨q, H4, c4, v4, ok4, k4⟩ := F31.ok (hs.keep k13) hb hl
  obtain ⟨H6, s6, g6, k6, n6⟩ := fill H4 fm0.cells q.cells rfl
  have k46 := k4.trans (k6.weak k4.next)
  have n4 := k4.next
  have g36 : H6.get H1.next = .row p.cells true := by rw [k46.get _ (by omega)]; exact g3
  have bp : IsB p.dt := by have : p.dt = (decF ys).1.dt := congrArg VF.dt v1; rw [this]; exact decF_dt hb
  have bq : IsB q.dt := by have : q.dt = (decF ys).1.dt := congrArg VF.dt v4; rw [this]; exact decF_dt hb
  obtain ⟨H7, c7, k7⟩ := F32.ok ((ok1.keep k3).keep k46) (ok4.keep k6) bp bq
  rw [v1, v4] at c7
  exact ⟨p, _, H1, H3, q, H4, H6, H7, c1, s3, c4, s6, rldAll g36, rldAll g6, by simpa using c7, (k13.trans (k46.weak k13.next)).trans (k7.weak (k13.trans (k46.weak k13.next)).next)⟩
theorem l2 {H : Heap} {s a : Option Addr} {sn sk n k : Nat} {xs ys : List Int} (hs : By H s sn sk ys) (ha : By H a n k xs) (hx : IsB xs) (hy : IsB ys) (hxl : xs.length ≤ 1000000) (hyl : ys.length ≤ 1000000) : ∃ H', L2 s sn sk a n k H (.bool true, H') := by
  obtain ⟨p, er, H1, H3, q, H4, H6, H7, c1, s3, c4, s6, l1, l2, c7, k7⟩ := both ha hx hxl
  obtain ⟨p', er', H1', H3', q', H4', H6', H7', c1', s3', c4', s6', l1', l2', c7', k7'⟩ := both (hs.keep k7) hy hyl
  obtain ⟨H8, c8, k8⟩ := F27.ok H7'
  refine ⟨H8, L2_step (L3_step ?_)⟩
  rw [if_pos (by omega)]
  refine ⟨_, _, _, rfl, _, _, _, _, _, _, _, _, _, _, _, _, c1, _, rfl, H3, s3, _, _, _, _, _, _, _, _, _, _, _, _, c4, _, rfl, H6, s6, _, _, _, _, _, _, _, _, _, _, l1, _, _, _, _, _, _, _, _, _, _, l2, _, _, c7, ?_⟩
  rw [if_pos rfl]
  refine L4_step ?_
  rw [if_neg (by simp)]
  refine L3_step ?_
  rw [show IntKind.wrap .i64 (0 + 1) = 1 from rfl, if_pos (by omega)]
  refine ⟨_, _, _, rfl, _, _, _, _, _, _, _, _, _, _, _, _, c1', _, rfl, H3', s3', _, _, _, _, _, _, _, _, _, _, _, _, c4', _, rfl, H6', s6', _, _, _, _, _, _, _, _, _, _, l1', _, _, _, _, _, _, _, _, _, _, l2', _, _, c7', ?_⟩
  rw [if_pos rfl]
  refine L4_step ?_
  rw [if_neg (by simp)]
  refine L3_step ?_
  rw [show IntKind.wrap .i64 (1 + 1) = 2 from rfl, if_neg (by omega)]
  exact ⟨_, _, c8, rfl⟩
theorem l1 {G : Heap} {s a c m : Option Addr} {sn sk n k cn ck mn mk : Nat} {ys ps ms : List Int} {x cut : Int} {right : Bool} (hs : By G s sn sk ys) (hp : Ints .i64 G c cn ck ps) (hmo : By G m mn mk ms) (hy : IsB ys) (hms : IsB ms) (hx : 0 ≤ x ∧ x < 256) (hn0 : 9 < n) (hn : n ≤ 1000) (hsn : sn ≤ 300) (hmn : mn ≤ 100) (hcn : cn ≤ 140737488355328) : ∀ (rest : List Int) (j : Nat) (xs : List Int) (H : Heap), ps.drop j = rest → j + rest.length = cn → Keep G.next G H → OwnI .u8 G.next H a n k xs → IsB xs →
    ∃ H', L1 x right m mn mk cut s sn sk a n k (n : Int) c cn ck (cn : Int) (j : Int) H (.bool true, H') := by
  have hun : IntKind.wrap .u64 (n : Int) = (n : Int) := u64 (by omega) (by omega)
  intro rest
  induction rest with
  | nil =>
    intro j xs H hd hj hk ho hb
    simp only [List.length_nil] at hj
    have hl := ho.ln
    have hsl := hs.ln
    have hml := hmo.ln
    obtain ⟨q, eq, hq⟩ := modN cut 3 (by omega) (by omega)
    obtain ⟨a', k', p', o'⟩ : ∃ a' k', psl 1 a n k none (some ((n - 2 - q : Nat) : Int)) none = some (a', n - 2 - q, k') ∧ OwnI .u8 G.next H a' (n - 2 - q) k' (xs.take (n - 2 - q)) := by
      obtain ⟨b, o, rfl⟩ := ho.sl.at (by omega)
      have hkU : k = UNK 1 := by
        obtain ⟨_, ⟨h, _⟩ | ⟨_, _, _, h, hk, _⟩⟩ := ho
        · cases h
        · exact hk
      refine ⟨_, _, psl_front (by omega) hkU, ?_⟩
      have := Own.front ho (r := n - 2 - q) (by omega)
      rw [Nat.mul_one, ← List.map_take] at this
      exact this
    have nk := hk.next
    obtain ⟨a2, k2', H2, c2, o2, k2⟩ := OwnI.app 1 o' (hmo.keep hk) nk (by omega) (by omega)
    have hb2 : IsB (xs.take (n - 2 - q) ++ ms) := isB_app (fun y hy => hb y (List.mem_of_mem_take hy)) hms
    have hl2 : (xs.take (n - 2 - q) ++ ms).length ≤ 2000 := by rw [List.length_append, List.length_take]; omega
    have kG2 := hk.trans k2
    have epsl : psl 1 a n k none (some (IntKind.wrap .i64 ((IntKind.wrap .i64 ((n : Int) - 2)) - (IntKind.wrap .i64 (Int.tmod (IntKind.wrap .u64 cut) 3))))) none = some (a', n - 2 - q, k') := by
      rw [eq, i64 (n := (n : Int) - 2) (by omega) (by omega), i64 (by omega) (by omega), show ((n : Int) - 2 - (q : Int)) = ((n - 2 - q : Nat) : Int) by omega]
      exact p'
    cases right with
    | true =>
      obtain ⟨a3, k3', H3, c3, o3, k3⟩ := F29.ok (show By H2 a2 (n - 2 - q + mn) k2' _ from o2.sl) (by omega)
      obtain ⟨H', z⟩ := l2 ((hs.keep kG2).keep k3) (show By H3 a3 (n - 2 - q + mn + 2) k3' (crcA (xs.take (n - 2 - q) ++ ms)) from o3.sl) (IsB.crcA hb2) hy (by rw [crcA_len]; omega) (by omega)
      refine ⟨H', L1_step ?_⟩
      rw [if_neg (by omega)]
      refine ⟨_, _, _, epsl, _, _, _, _, c2, ?_⟩
      rw [if_pos rfl]
      exact ⟨_, _, _, _, c3, z⟩
    | false =>
      obtain ⟨H', z⟩ := l2 (hs.keep kG2) (show By H2 a2 (n - 2 - q + mn) k2' _ from o2.sl) hb2 hy (by omega) (by omega)
      refine ⟨H', L1_step ?_⟩
      rw [if_neg (by omega)]
      refine ⟨_, _, _, epsl, _, _, _, _, c2, ?_⟩
      rw [if_neg (by simp)]
      exact z
  | cons q rest ih =>
    intro j xs H hd hj hk ho hb
    simp only [List.length_cons] at hj
    have hl := ho.ln
    have hx' := drop_get hd
    have sp := hp.keep hk
    obtain ⟨b, o, rfl⟩ := hp.at (by omega)
    by_cases h3 : (j : Int) < 3
    · obtain ⟨e, em, hm⟩ := modN q (n : Int) (by omega) (by omega)
      obtain ⟨b1, o1, rfl⟩ := ho.sl.at (by omega)
      have hg : xs[e]? = some (xs.getD e 0) := by simp [List.getD, List.getElem?_eq_getElem (show e < xs.length by omega)]
      have ld := Ints.get ho.sl hg
      obtain ⟨H1, c1, o2, g1, n1⟩ := OwnI.putc' ho (i := e) (by omega) (ixor .u8 (xs.getD e 0) x)
      obtain ⟨H', z⟩ := ih (j + 1) _ H1 (drop_next hd) (by omega) (hk.trans g1) o2 (isB_set hb (xor8_b (hb.get hg) hx))
      refine ⟨H', L1_step ?_⟩
      rw [if_pos (by omega)]
      refine ⟨b, o, rfl, by omega, by omega, q, Ints.get sp hx', ?_⟩
      rw [if_pos h3]
      rw [hun, em]
      refine ⟨by omega, b1, o1, rfl, by omega, by omega, _, ld, by omega, by omega, H1, c1, ?_⟩
      rw [i64 (by omega) (by omega)]
      exact_mod_cast z
    · obtain ⟨H', z⟩ := ih (j + 1) xs H (drop_next hd) (by omega) hk ho hb
      refine ⟨H', L1_step ?_⟩
      rw [if_pos (by omega)]
      refine ⟨b, o, rfl, by omega, by omega, q, Ints.get sp hx', ?_⟩
      rw [if_neg h3, i64 (by omega) (by omega)]
      exact_mod_cast z
theorem ok {H : Heap} {f : Fm} {c s m : Option Addr} {cn ck sn sk mn mk : Nat} {ps ys ms : List Int} {x cut : Int} {right : Bool} (h : FmOk H f) (hb : IsB f.dt) (hp : Ints .i64 H c cn ck ps) (hcn : cn ≤ 140737488355328) (hx : 0 ≤ x ∧ x < 256) (hmo : By H m mn mk ms) (hms : IsB ms) (hs : By H s sn sk ys) (hy : IsB ys) : ∃ H', Ce 7 [f.agg, .slice c cn ck, .int .u8 x, .bool right, .slice m mn mk, .int .i64 cut, .slice s sn sk] H = some (.bool true, H') := by
  obtain ⟨H1, e1, n1, g1, k1⟩ := one H f.cells
  obtain ⟨H2, c2, k2⟩ := F26.ok (h.keep k1)
  have k02 := k1.trans (k2.weak k1.next)
  have n2 := k2.next
  have g2 : H2.get H.next = .row f.cells true := by rw [k2.get _ (by omega)]; exact g1
  have hsl := hs.ln
  have aw : ∃ H', L0 c cn ck x right m mn mk cut s sn sk H.next 0 true H2 (.bool true, H') := by
    obtain ⟨H3, c3, k3⟩ := F27.ok H2
    refine ⟨H3, L0_step ?_⟩
    rw [if_pos rfl]
    exact ⟨_, _, c3, rfl⟩
  obtain ⟨H3, z3⟩ := aw
  by_cases hl : F26.okP f
  · by_cases h100 : (mn : Int) > 100
    · refine ⟨H3, call ⟨_, e1, _, _, _, _, _, _, _, _, _, _, rldAll g1, _, _, c2, ?_⟩⟩
      rw [if_pos (by simpa using hl), if_pos h100]
      exact z3
    by_cases h300 : (sn : Int) > 300
    · refine ⟨H3, call ⟨_, e1, _, _, _, _, _, _, _, _, _, _, rldAll g1, _, _, c2, ?_⟩⟩
      rw [if_pos (by simpa using hl), if_neg h100, decide_eq_true h300]
      exact z3
    · have h2 := h.keep k02
      obtain ⟨a4, k4', H4, c4, o4, k4⟩ := F28.ok h2 hb
      have st : ∀ r, (if ((encFO f.v).length : Int) > 0 then L1 x right m mn mk cut s sn sk a4 (encFO f.v).length k4' ((encFO f.v).length : Int) c cn ck (cn : Int) 0 H4 r else L2 s sn sk a4 (encFO f.v).length k4' H4 r) → Ce 7 [f.agg, .slice c cn ck, .int .u8 x, .bool right, .slice m mn mk, .int .i64 cut, .slice s sn sk] H = some r := by
        intro r z
        refine call ⟨_, e1, _, _, _, _, _, _, _, _, _, _, rldAll g1, _, _, c2, ?_⟩
        rw [if_pos (by simpa using hl), if_neg h100, decide_eq_false h300]
        refine L0_step ?_
        rw [if_neg (by simp)]
        exact ⟨_, _, _, _, _, _, _, _, _, _, rldAll g2, _, _, _, _, _, c4, z⟩
      by_cases hm : mayF f.v
      · rw [encFO_may hm] at o4 st
        have hle := h.len hm
        have hlen := encF_len f.v
        have hpos := encL_pos f.v.es
        obtain ⟨H', z⟩ := l1 (G := H2) (right := right) (cut := cut) (hs.keep k02) (hp.keep k02) (hmo.keep k02) hy hms hx (by omega) (by omega) (by omega) (by omega) hcn ps 0 _ H4 rfl (by have := hp.ln; omega) k4 o4 (encF_isB hm hb)
        refine ⟨H', st _ ?_⟩
        rw [if_pos (by omega)]
        exact z
      · rw [encFO_no hm] at o4 st
        obtain ⟨H', z⟩ := l2 ((hs.keep k02).keep k4) (show By H4 a4 ([] : List Int).length k4' [] from o4.sl) isB_nil hy (by simp) (by omega)
        refine ⟨H', st _ ?_⟩
        rw [if_neg (by simp)]
        exact z
  · refine ⟨H3, call ⟨_, e1, _, _, _, _, _, _, _, _, _, _, rldAll g1, _, _, c2, ?_⟩⟩
    rw [if_neg (by simpa using hl)]
    exact z3
theorem law {H : Heap} {ds : List (List Value)} (h : HoldsAll H [TFm, .slice (.int .i64) 8, .int .u8, .bool, .slice (.int .u8) 1, .int .i64, .slice (.int .u8) 1] ds) : ∃ H', Ce 7 (vals [TFm, .slice (.int .i64) 8, .int .u8, .bool, .slice (.int .u8) 1, .int .i64, .slice (.int .u8) 1] ds) H = some (.bool true, H') := by
  obtain ⟨d0, _, rfl, h0, h⟩ := h.cons
  obtain ⟨d1, _, rfl, h1, h⟩ := h.cons
  obtain ⟨d2, _, rfl, h2, h⟩ := h.cons
  obtain ⟨d3, _, rfl, h3, h⟩ := h.cons
  obtain ⟨d4, _, rfl, h4, h⟩ := h.cons
  obtain ⟨d5, _, rfl, h5, h⟩ := h.cons
  obtain ⟨d6, _, rfl, h6, h⟩ := h.cons
  obtain rfl := h.nil
  obtain ⟨f, rfl, hf, hb⟩ := fmOf h0
  obtain ⟨c, cn, ck, ps, rfl, hp, hcb, _⟩ := h1.ints
  obtain ⟨x, rfl, hx⟩ := h2.i
  obtain ⟨right, rfl⟩ := h3.b
  obtain ⟨m, mn, mk, ms, rfl, hmo, _, hms⟩ := h4.ints
  obtain ⟨cut, rfl, _⟩ := h5.i
  obtain ⟨s, sn, sk, ys, rfl, hs, _, hy⟩ := h6.ints
  exact ok hf hb hp (by omega) (u8_wf hx) hmo (IsB.of hms) hs (IsB.of hy)
end F7
end Go.X
