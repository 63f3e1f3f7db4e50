/- The law CellPlays. -/
import Derived.Test.YtomibdncbioijaaXzDP
import Derived.Test.YtomibdncbioijaaXzTd10
set_option linter.unusedVariables false
set_option linter.unusedSimpArgs false
set_option maxRecDepth 20000
namespace Go.X
open Go Go.RowKit Go.Proofs
theorem TB.chg {S : Nat → Prop} {base : Nat} {H H' : Heap} {D : Nat} {ln : List Int} {a : Option Addr} {k : Nat} {l : List C5} (h : TB base H D ln a k l) (c : Chg S H H') (h1 : ¬S D) (h2 : ∀ b, In1 a b → ¬S b) : TB base H' D ln a k l :=
  ⟨by rw [c.get _ h.lt h1]; exact h.row, h.own.chg c h2, h.ap, h.len, h.lb, Nat.lt_of_lt_of_le h.lt c.next⟩
/-- Two tables with the same cells. -/
structure St (B : Nat) (H : Heap) (D M : Nat) (ln : List Int) (a : Option Addr) (k : Nat) (a' : Option Addr) (k' : Nat) (l : List C5) : Prop where
  t : TB B H D ln a k l
  m : TB B H M ln a' k' l
  ne : D ≠ M
  a1 : ¬In1 a M
  a2 : ¬In1 a' D
  ap : ∀ b, In1 a b → ¬In1 a' b
  n : l.length ≤ 64
  sl : SL l
  ti : TI ln l
theorem St.keep {B : Nat} {H H' : Heap} {D M : Nat} {ln : List Int} {a a' : Option Addr} {k k' : Nat} {l : List C5} (h : St B H D M ln a k a' k' l) (kk : Keep H.next H H') : St B H' D M ln a k a' k' l :=
  ⟨h.t.keep kk, h.m.keep kk, h.ne, h.a1, h.a2, h.ap, h.n, h.sl, h.ti⟩
section
variable {B : Nat} {H H1 H2 : Heap} {D M : Nat} {ln ln1 : List Int} {a a' x x' : Option Addr} {k k' y y' : Nat} {l l1 : List C5}
theorem St.ref (h : St B H D M ln a k a' k' l) (c1 : Chg (fun b => b = D ∨ In1 a b) H H1) : TB B H1 M ln a' k' l :=
  h.m.chg c1 (fun q => q.elim (fun e => h.ne e.symm) h.a1) fun b hb q => q.elim (fun e => h.a2 (e ▸ hb)) fun e => h.ap b e hb
theorem St.both (h : St B H D M ln a k a' k' l) (c1 : Chg (fun b => b = D ∨ In1 a b) H H1) (t1 : TB B H1 D ln1 x y l1) (i1 : ∀ b, In1 x b → In1 a b ∨ H.next ≤ b) (c2 : Chg (fun b => b = M ∨ In1 a' b) H1 H2) (t2 : TB B H2 M ln1 x' y' l1) (i2 : ∀ b, In1 x' b → In1 a' b ∨ H1.next ≤ b)
    (hn : l1.length ≤ 64) (hs : SL l1) (hi : TI ln1 l1) : St B H2 D M ln1 x y x' y' l1 ∧ Keep B H H2 := by
  have hD := h.t.lt
  have hM := h.m.lt
  have hDb := h.t.lb
  have hMb := h.m.lb
  have n1 := c1.next
  have la' : ∀ b, In1 a' b → b < H.next := fun b hb => (h.m.own.lt hb).2
  have nx : ∀ b, In1 x b → ¬(b = M ∨ In1 a' b) := fun b hb q => by
    rcases i1 b hb with e | e
    · rcases q with q | q
      · exact h.a1 (q ▸ e)
      · exact h.ap b e q
    · rcases q with q | q
      · omega
      · have := la' b q; omega
  refine ⟨⟨t1.chg c2 (fun q => q.elim h.ne h.a2) nx, t2, h.ne, fun q => ?_, fun q => ?_, fun b hb q => ?_, hn, hs, hi⟩, (c1.keep (by omega) fun b _ q => ?_).trans (c2.keep (by omega) fun b _ q => ?_)⟩
  · exact nx M q (.inl rfl)
  · rcases i2 D q with e | e
    · exact h.a2 e
    · omega
  · rcases i2 b q with e | e
    · exact nx b hb (.inr e)
    · have := (t1.own.lt hb).2; omega
  · rcases q with q | q
    · omega
    · exact (h.t.own.lt q).1
  · rcases q with q | q
    · omega
    · exact (h.m.own.lt q).1
end
theorem TI.act {ln : List Int} {l : List C5} (h : TI ln l) : ∀ c ∈ l, inP c.f 0 3 ∧ ln.getD c.f.toNat 0 ≠ 0 := fun c hc => by
  obtain ⟨a, b⟩ := h c hc
  exact ⟨a.1, by have := a.2.1.1; omega⟩
theorem frE_ti {ln : List Int} {l : List C5} {h n : Int} (hl : ln.length = 4) (ti : TI ln l) : TI (if frE l h n = 0 then ln.set h.toNat n else ln) l := by
  by_cases e : frE l h n = 0
  · rw [if_pos e]
    unfold frE at e
    by_cases c1 : inP h 0 3 ∧ inP n 0 200
    · rw [if_neg (fun q => q c1)] at e
      by_cases c2 : ∃ c ∈ l, c.f = h ∧ c.s ≥ n
      · rw [if_pos c2] at e; exact absurd e (by decide)
      · intro c hc
        obtain ⟨q1, q2⟩ := ti c hc
        refine ⟨q1, ?_⟩
        have := q1.1.1
        have := c1.1.1
        by_cases hf : c.f = h
        · have hs : ¬c.s ≥ n := fun q => c2 ⟨c, hc, hf, q⟩
          rw [hf, List.getD, List.getElem?_set_self (by have := c1.1.2; omega)]
          show c.s < n; omega
        · rw [List.getD, List.getElem?_set_ne (by omega)]; exact q2
    · rw [if_pos c1] at e; exact absurd e (by decide)
  · rw [if_neg e]; exact ti
theorem adE_0 {ln : List Int} {l : List C5} {c : C5} (e : adE ln l c = 0) : mayC c ∧ c.s < ln.getD c.f.toNat 0 ∧ (∀ x ∈ l, x ≠ c) ∧ l.length < 64 := by
  unfold adE at e
  by_cases h1 : mayC c
  · rw [if_neg (fun q => q h1)] at e
    by_cases h2 : c.s ≥ ln.getD c.f.toNat 0
    · rw [if_pos h2] at e; exact absurd e (by decide)
    · rw [if_neg h2] at e
      by_cases h3 : ∃ x ∈ l, x.f = c.f ∧ x.s = c.s ∧ x.c = c.c
      · rw [if_pos h3] at e; exact absurd e (by decide)
      · rw [if_neg h3] at e
        by_cases h4 : 64 ≤ l.length
        · rw [if_pos h4] at e; exact absurd e (by decide)
        · exact ⟨h1, by omega, fun x hx q => h3 ⟨x, hx, by rw [q]; exact ⟨rfl, rfl, rfl⟩⟩, by omega⟩
  · rw [if_pos h1] at e; exact absurd e (by decide)
theorem remC_sub (c : C5) (l : List C5) : (remC c l).Sublist l := by
  unfold remC
  split
  · exact List.Sublist.refl _
  · have := (List.Sublist.refl (l.take (fx (fun x => c = x) l).toNat)).append (List.drop_sublist 1 (l.drop (fx (fun x => c = x) l).toNat))
    rw [List.drop_drop, List.take_append_drop] at this
    exact this
/-- A call. -/
structure Cl where
  d : Int
  h : Int
  n : Int
  c : C5
abbrev Cl.cells (x : Cl) : List Value := [.int .i64 x.d, .int .i64 x.h, .int .i64 x.n, .int .i64 x.c.f, .int .i64 x.c.s, .int .i64 x.c.c, .int .i64 x.c.o, .int .i64 x.c.p]
theorem Cl.z (x : Cl) : x.cells.length = 8 := rfl
theorem ldAll_at {H : Heap} {p : Nat} {us vs : List Value} {own : Bool} (h : H.get p = .row (us ++ vs) own) : ldAll H p us.length vs := by
  have key : ∀ (xs : List Value) (o : Nat), (us ++ vs).drop o = xs → ldAll H p o xs := by
    intro xs
    induction xs with
    | nil => intro o _; trivial
    | cons x xs ih =>
      intro o ho
      refine ⟨?_, ih (o + 1) (drop_next ho)⟩
      rw [rldc' h, drop_get ho]
  exact key vs us.length (by simp)
theorem Cl.ld {H : Heap} {p : Nat} {x : Cl} (h : H.get p = .row x.cells true) : ldAll H p 3 x.c.cells := ldAll_at (us := [.int .i64 x.d, .int .i64 x.h, .int .i64 x.n]) (vs := x.c.cells) h
namespace F10
theorem l4 {B : Nat} {H : Heap} {D M S : Nat} {ln : List Int} {a a' : Option Addr} {k k' : Nat} {l : List C5} {asn q : Int} {x : Cl} {b o n kk : Nat} {t18 t19 : Int} (st : St B H D M ln a k a' k' l) (g : H.get S = .row x.cells true) (hS : S < H.next) :
    ∃ X, Keep H.next H X ∧ ∀ rv, L0 asn (some ⟨D, 0, none⟩) M 0 (some ⟨b, o, none⟩) n kk t18 (IntKind.wrap .i64 (t19 + 1)) X rv → L4 asn (some ⟨D, 0, none⟩) M 0 S 0 true q b o n kk t18 t19 H rv := by
  have hn := st.n
  obtain ⟨x1, y1, H1, c1, o1, k1⟩ := F25.ok st.t (by omega)
  have st1 := st.keep k1
  have c2 := F30.ok o1.sl st1.m.own.sl (by omega)
  obtain ⟨x3, y3, H3, c3, s3, k3⟩ := F21.ok st1.t (by omega) st.ti.act q
  have st3 := st1.keep k3
  obtain ⟨x4, y4, H4, c4, s4, k4⟩ := F31.ok st3.m (by omega) st.ti.act q
  have hact : (act ln q l).length ≤ l.length := by
    unfold act
    split
    · simp
    · exact List.length_filter_le ..
  have c5 := F30.ok (s3.keep k4) s4 (by omega)
  have k04 := (k1.th k3).th k4
  have g4 : H4.get S = .row x.cells true := by rw [k04.get _ hS]; exact g
  obtain ⟨H5, c6, k5⟩ := F17.ok x.c H4
  have m4 := k04.next
  have g5 : H5.get S = .row x.cells true := by rw [k5.get _ (by omega)]; exact g4
  obtain ⟨H6, c7, k6⟩ := F15.ok x.c H5
  refine ⟨H6, (k04.th k5).th k6, fun rv hv => L4_step ?_⟩
  rw [if_pos rfl]
  refine ⟨_, _, _, _, c1, _, _, _, (rldc' st.m.row 4).trans (tb4 st.m.len), _, _, c2, ?_⟩
  rw [if_pos rfl]
  refine ⟨_, _, _, _, c3, _, _, _, _, c4, _, _, c5, ?_⟩
  rw [if_pos rfl]
  refine ⟨_, _, _, _, _, Cl.ld g4, _, _, c6, _, _, _, _, _, Cl.ld g4, _, _, c7, (rldc' st1.m.row 4).trans (tb4 st.m.len), Cl.ld g5, L5_step ?_⟩
  rw [if_neg (by simp)]
  exact hv
theorem l3 {B : Nat} {H : Heap} {D M : Nat} {ln : List Int} {a a' : Option Addr} {k k' : Nat} {l : List C5} (st : St B H D M ln a k a' k' l) : ∀ (d j : Nat), j + d = 4 → ∃ H', L3 (some ⟨D, 0, none⟩) M 0 (j : Int) H (.bool true, H') := by
  intro d
  induction d with
  | zero =>
    intro j hj
    obtain ⟨H', c, _⟩ := F19.ok H
    have c1 := F24.ok st.t (-1)
    rw [if_neg (by decide)] at c1
    have c2 := F24.ok st.t 4
    rw [if_neg (by decide)] at c2
    refine ⟨H', L3_step ?_⟩
    rw [if_neg (by omega)]
    refine ⟨_, _, c1, ?_⟩
    rw [if_pos rfl]
    refine ⟨_, _, c2, ?_⟩
    rw [if_pos rfl]
    exact ⟨_, _, c, rfl⟩
  | succ d ih =>
    intro j hj
    obtain ⟨H', z⟩ := ih (j + 1) (by omega)
    have c1 := F24.ok st.t (j : Int)
    rw [if_pos ⟨by omega, by omega⟩, Int.toNat_natCast] at c1
    have ld : ldc H M (0 + Int.toNat (j : Int) * 1) = some (.int .i64 (ln.getD j 0)) := by
      rw [show 0 + Int.toNat (j : Int) * 1 = j by omega, rldc' st.m.row]
      exact tbj (by rw [st.m.len]; omega)
    refine ⟨H', L3_step ?_⟩
    rw [if_pos (by omega)]
    refine ⟨_, _, c1, by omega, by omega, _, ld, ld, ?_⟩
    rw [if_pos rfl, i64 (by omega) (by omega)]
    exact_mod_cast z
theorem l0 {B : Nat} {G : Heap} {D M : Nat} {aA : Option Addr} {n kA : Nat} {cs : List Cl} {asn : Int} (hB : B = G.next) (hs : Sl G 8 aA n kA (cs.flatMap Cl.cells)) (hn : n ≤ 1000000000000000) : ∀ (rest : List Cl) (j : Nat) (ln : List Int) (a a' : Option Addr) (k k' : Nat) (l : List C5) (H : Heap), cs.drop j = rest → j + rest.length = n → Keep B G H → St B H D M ln a k a' k' l →
    ∃ H', L0 asn (some ⟨D, 0, none⟩) M 0 aA n kA (n : Int) (j : Int) H (.bool true, H') := by
  intro rest
  induction rest with
  | nil =>
    intro j ln a a' k k' l H hd hj hk st
    simp only [List.length_nil] at hj
    obtain ⟨H', z⟩ := l3 st 4 0 rfl
    refine ⟨H', L0_step ?_⟩
    rw [if_neg (by omega)]
    exact L1_step z
  | cons x rest ih =>
    intro j ln a a' k k' l H hd hj hk st
    simp only [List.length_cons] at hj
    obtain ⟨b, o, rfl⟩ := hs.at (by omega)
    have hx := drop_get hd
    have hkG : Keep G.next G H := by rw [← hB]; exact hk
    have ra := Sl.recs Cl.z (hs.keep hkG) hx
    obtain ⟨H2, s2, g2, k2, n2⟩ := fill H [.int .i64 0, .int .i64 0, .int .i64 0, .int .i64 0, .int .i64 0, .int .i64 0, .int .i64 0, .int .i64 0] x.cells rfl
    have st2 := st.keep k2
    have hBH : B ≤ H.next := by have := st.t.lb; have := st.t.lt; omega
    have kB2 : Keep B G H2 := hk.trans (k2.weak hBH)
    have start : ∀ rv, (if (j : Int) ≥ 150 then L1 (some ⟨D, 0, none⟩) M 0 H2 rv else
        (if x.d = 0 then (∃ e H3 H4, Cd 20 [.pointer (some ⟨D, 0, none⟩), .int .i64 x.h, .int .i64 x.n] H2 = some (.int .i64 e, H3) ∧ Cd 27 [.pointer (some ⟨M, 0, none⟩), .int .i64 x.h, .int .i64 x.n] H3 = some (.int .i64 e, H4) ∧ H3.get H.next = .row x.cells true ∧ L2 asn (some ⟨D, 0, none⟩) M 0 (j : Int) H.next 0 true b o n kA (n : Int) (j : Int) H4 rv)
        else if x.d = 1 then (∃ e H3 H4, Cd 18 [.pointer (some ⟨D, 0, none⟩), x.c.agg] H2 = some (.int .i64 e, H3) ∧ Cd 28 [.pointer (some ⟨M, 0, none⟩), x.c.agg] H3 = some (.int .i64 e, H4) ∧ H3.get H.next = .row x.cells true ∧ L2 asn (some ⟨D, 0, none⟩) M 0 (j : Int) H.next 0 true b o n kA (n : Int) (j : Int) H4 rv)
        else (∃ e H3 H4, Cd 26 [.pointer (some ⟨D, 0, none⟩), x.c.agg] H2 = some (.int .i64 e, H3) ∧ Cd 29 [.pointer (some ⟨M, 0, none⟩), x.c.agg] H3 = some (.int .i64 e, H4) ∧ H3.get H.next = .row x.cells true ∧ L2 asn (some ⟨D, 0, none⟩) M 0 (j : Int) H.next 0 true b o n kA (n : Int) (j : Int) H4 rv))) →
        L0 asn (some ⟨D, 0, none⟩) M 0 (some ⟨b, o, none⟩) n kA (n : Int) (j : Int) H rv := by
      intro rv hv
      refine L0_step ?_
      rw [if_pos (by omega)]
      refine ⟨b, o, rfl, by omega, by omega, _, _, _, _, _, _, _, _, ra, _, rfl, H2, s2, ?_⟩
      by_cases h1 : (j : Int) ≥ 150
      · rw [if_pos h1] at hv ⊢; exact hv
      · rw [if_neg h1] at hv ⊢
        refine ⟨_, rldc' g2 0, ?_⟩
        by_cases h2 : x.d = 0
        · rw [if_pos h2] at hv ⊢
          obtain ⟨e, H3, H4, c3, c4, g3, z⟩ := hv
          refine ⟨_, rldc' g2 1, _, rldc' g2 2, _, _, c3, _, rldc' g2 1, _, rldc' g2 2, _, _, c4, rldc' g3 1, rldc' g3 2, ?_⟩
          rw [beq_self_eq_true]; exact z
        · rw [if_neg h2] at hv ⊢
          by_cases h3 : x.d = 1
          · rw [if_pos h3] at hv ⊢
            obtain ⟨e, H3, H4, c3, c4, g3, z⟩ := hv
            refine ⟨_, _, _, _, _, Cl.ld g2, _, _, c3, _, _, _, _, _, Cl.ld g2, _, _, c4, Cl.ld g3, ?_⟩
            rw [beq_self_eq_true]; exact z
          · rw [if_neg h3] at hv ⊢
            obtain ⟨e, H3, H4, c3, c4, g3, z⟩ := hv
            refine ⟨_, _, _, _, _, Cl.ld g2, _, _, c3, _, _, _, _, _, Cl.ld g2, _, _, c4, Cl.ld g3, ?_⟩
            rw [beq_self_eq_true]; exact z
    by_cases h150 : (j : Int) ≥ 150
    · obtain ⟨H', z⟩ := l3 st2 4 0 rfl
      refine ⟨H', start _ ?_⟩
      rw [if_pos h150]
      exact L1_step z
    · have hDl := st.t.lt
      have hMl := st.m.lt
      have hS : H.next < H2.next := by omega
      have ngo : ¬(H.next = D ∨ In1 a H.next) := fun q => q.elim (fun e => by omega) fun e => by have := (st.t.own.lt e).2; omega
      have ngo' : ¬(H.next = M ∨ In1 a' H.next) := fun q => q.elim (fun e => by omega) fun e => by have := (st.m.own.lt e).2; omega
      have next : ∀ (ln1 : List Int) (x1 x1' : Option Addr) (y1 y1' : Nat) (l1 : List C5) (H4 : Heap), St B H4 D M ln1 x1 y1 x1' y1' l1 → Keep B H2 H4 → H4.get H.next = .row x.cells true → ∃ H', L2 asn (some ⟨D, 0, none⟩) M 0 (j : Int) H.next 0 true b o n kA (n : Int) (j : Int) H4 (.bool true, H') := by
        intro ln1 x1 x1' y1 y1' l1 H4 st4 k4 g4
        have m4 := k4.next
        have ei : IntKind.wrap .i64 ((j : Int) + 1) = ((j + 1 : Nat) : Int) := by rw [i64 (by omega) (by omega)]; omega
        have hB4 : B ≤ H4.next := by omega
        have each : ∀ q : Int, ∃ H', L4 asn (some ⟨D, 0, none⟩) M 0 H.next 0 true q b o n kA (n : Int) (j : Int) H4 (.bool true, H') := by
          intro q
          obtain ⟨X, kX, z⟩ := l4 (asn := asn) (q := q) (b := b) (o := o) (n := n) (kk := kA) (t18 := (n : Int)) (t19 := (j : Int)) st4 g4 (by omega)
          obtain ⟨H', z'⟩ := ih (j + 1) ln1 x1 x1' y1 y1' l1 X (drop_next hd) (by omega) ((kB2.trans k4).trans (kX.weak hB4)) (st4.keep kX)
          exact ⟨H', z _ (by rw [ei]; exact z')⟩
        by_cases hq : asn > 1125899906842624
        · obtain ⟨H', z⟩ := each asn
          refine ⟨H', L2_step ?_⟩
          rw [if_pos hq]; exact z
        · obtain ⟨H', z⟩ := each (IntKind.wrap .i64 (asn + Int.tmod (j : Int) 1000))
          refine ⟨H', L2_step ?_⟩
          rw [if_neg hq]; exact z
      have hlen := st.n
      by_cases h2 : x.d = 0
      · obtain ⟨H3, c3, t3, k3, f3⟩ := F20.ok st2.t (by omega) x.h x.n
        have f3' : Chg (fun b => b = D ∨ In1 a b) H2 H3 := f3.weak fun _ _ h => .inl h
        obtain ⟨H4, c4, t4, f4⟩ := F27.ok (st2.ref f3') (by omega) x.h x.n
        have f4' : Chg (fun b => b = M ∨ In1 a' b) H3 H4 := f4.weak fun _ _ h => .inl h
        obtain ⟨st4, k4⟩ := st2.both f3' t3 (fun b hb => .inl hb) f4' t4 (fun b hb => .inl hb) st.n st.sl (frE_ti st.t.len st.ti)
        have g3 : H3.get H.next = .row x.cells true := by rw [f3'.get _ hS ngo]; exact g2
        have g4 : H4.get H.next = .row x.cells true := by rw [f4'.get _ (by have := f3.next; omega) ngo']; exact g3
        obtain ⟨H', z⟩ := next _ _ _ _ _ _ H4 st4 k4 g4
        refine ⟨H', start _ ?_⟩
        rw [if_neg h150, if_pos h2]
        exact ⟨_, H3, H4, c3, c4, g3, z⟩
      · by_cases h3 : x.d = 1
        · obtain ⟨x3, y3, H3, c3, t3, k3, f3, i3⟩ := F18.ok st2.t st.n st.sl x.c
          obtain ⟨x4, y4, H4, c4, t4, f4, i4⟩ := F28.ok (st2.ref f3) st.n st.sl x.c
          have inv : (if adE ln l x.c = 0 then insC x.c l else l).length ≤ 64 ∧ SL (if adE ln l x.c = 0 then insC x.c l else l) ∧ TI ln (if adE ln l x.c = 0 then insC x.c l else l) := by
            by_cases e : adE ln l x.c = 0
            · rw [if_pos e]
              obtain ⟨e1, e2, e3, e4⟩ := adE_0 e
              refine ⟨by rw [insC_len]; omega, insC_sl st.sl e3, fun y hy => ?_⟩
              rcases insC_mem hy with rfl | hy
              · exact ⟨e1, e2⟩
              · exact st.ti y hy
            · rw [if_neg e]; exact ⟨st.n, st.sl, st.ti⟩
          obtain ⟨st4, k4⟩ := st2.both f3 t3 i3 f4 t4 i4 inv.1 inv.2.1 inv.2.2
          have g3 : H3.get H.next = .row x.cells true := by rw [f3.get _ hS ngo]; exact g2
          have g4 : H4.get H.next = .row x.cells true := by rw [f4.get _ (by have := f3.next; omega) ngo']; exact g3
          obtain ⟨H', z⟩ := next _ _ _ _ _ _ H4 st4 k4 g4
          refine ⟨H', start _ ?_⟩
          rw [if_neg h150, if_neg h2, if_pos h3]
          exact ⟨_, H3, H4, c3, c4, g3, z⟩
        · obtain ⟨x3, y3, H3, c3, t3, k3, f3, i3⟩ := F26.ok st2.t st.n x.c
          obtain ⟨x4, y4, H4, c4, t4, f4, i4⟩ := F29.ok (st2.ref f3) st.n x.c
          have hsub := remC_sub x.c l
          obtain ⟨st4, k4⟩ := st2.both f3 t3 i3 f4 t4 i4 (Nat.le_trans hsub.length_le st.n) (List.Pairwise.sublist hsub st.sl) (fun y hy => st.ti y (hsub.subset hy))
          have g3 : H3.get H.next = .row x.cells true := by rw [f3.get _ hS ngo]; exact g2
          have g4 : H4.get H.next = .row x.cells true := by rw [f4.get _ (by have := f3.next; omega) ngo']; exact g3
          obtain ⟨H', z⟩ := next _ _ _ _ _ _ H4 st4 k4 g4
          refine ⟨H', start _ ?_⟩
          rw [if_neg h150, if_neg h2, if_neg h3]
          exact ⟨_, H3, H4, c3, c4, g3, z⟩
theorem ok {H : Heap} {aA : Option Addr} {n kA : Nat} {cs : List Cl} (hs : Sl H 8 aA n kA (cs.flatMap Cl.cells)) (hn : n ≤ 1000000000000000) (asn : Int) : ∃ H', Cd 10 [.slice aA n kA, .int .i64 asn] H = some (.bool true, H') := by
  obtain ⟨H1, c1, t1, k1, n1⟩ := F16.ok H
  obtain ⟨H2, e2, n2, g2, k2⟩ := one H1 [.int .i64 0, .int .i64 0, .int .i64 0, .int .i64 0, .slice none 0 0]
  have t2 := t1.keep k2
  have m2 : TB H.next H2 H1.next [0, 0, 0, 0] none 0 [] := ⟨g2, Own.nil5, In1.none, rfl, by omega, by omega⟩
  have st : St H.next H2 H.next H1.next [0, 0, 0, 0] none 0 none 0 [] := ⟨t2, m2, by omega, In1.none, In1.none, fun b hb => absurd hb In1.none, by simp, List.Pairwise.nil, fun c hc => by cases hc⟩
  have hl := hs.cnt Cl.z (by decide)
  obtain ⟨H', z⟩ := l0 (asn := asn) rfl hs hn cs 0 _ _ _ _ _ _ H2 rfl (by omega) (k1.trans (k2.weak (by omega))) st
  refine ⟨H', call ⟨_, _, c1, _, e2, ?_⟩⟩
  rw [if_neg (by simp)]
  exact z
abbrev TCa : Ty := .strct (.pair (.int .i64) (.pair (.int .i64) (.pair (.int .i64) (.pair (.strct (.pair (.int .i64) (.pair (.int .i64) (.pair (.int .i64) (.pair (.int .i64) (.pair (.int .i64) (.unit))))))) (.unit)))))
theorem clOf {H : Heap} {vs : List Value} (h : Holds H TCa vs) : ∃ x : Cl, vs = x.cells ∧ True := by
  obtain ⟨_, _, rfl, ⟨x, rfl, _⟩, _, _, rfl, ⟨y, rfl, _⟩, _, _, rfl, ⟨z, rfl, _⟩, _, _, rfl, ⟨_, _, rfl, ⟨a, rfl, _⟩, _, _, rfl, ⟨b, rfl, _⟩, _, _, rfl, ⟨c, rfl, _⟩, _, _, rfl, ⟨d, rfl, _⟩, _, _, rfl, ⟨e, rfl, _⟩, rfl⟩, rfl⟩ := h
  exact ⟨⟨x, y, z, ⟨a, b, c, d, e⟩⟩, rfl, trivial⟩
theorem law {H : Heap} {ds : List (List Value)} (h : HoldsAll H [.slice TCa 64, .int .i64] ds) : ∃ H', Cd 10 (vals [.slice TCa 64, .int .i64] ds) H = some (.bool true, H') := by
  obtain ⟨d0, _, rfl, h0, h⟩ := h.cons
  obtain ⟨d1, _, rfl, h1, h⟩ := h.cons
  obtain rfl := h.nil
  obtain ⟨x, n, k, l, rfl, s, hl, hok, hb⟩ := Holds.recs (f := Cl.cells) (Q := fun _ => True) (fun _ h => clOf h) h0
  obtain ⟨asn, rfl, _⟩ := h1.i
  exact ok s (by omega) asn
end F10
end Go.X
