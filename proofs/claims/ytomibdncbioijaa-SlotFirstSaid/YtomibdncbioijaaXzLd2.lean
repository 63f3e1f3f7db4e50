/- What a node does in a slot; the law SlotForms. -/
import Derived.Test.YtomibdncbioijaaXzLd
import Derived.Test.YtomibdncbioijaaXzTdA
set_option linter.unusedVariables false
set_option linter.unusedSimpArgs false
set_option maxRecDepth 20000
namespace Go.X
open Go Go.RowKit Go.Proofs
theorem ldSet {H : Heap} {p : Nat} {vs : List Value} : ldAll (H.set p (.row vs true)) p 0 vs := rldAll (Heap.get_set_same _ _ _)
namespace F13
variable {G : Heap} {aw : Option Addr} {nw kw : Nat} {ws : List Int} {P : Nat} {free : Bool} {base : Nat}
theorem l2 {a : Option Addr} {n k : Nat} {l : List C5} (hs : Cells G a n k l) (hn : n ≤ 1000000000) (hP : P < G.next) (ap : ¬In1 a P) (hb : base ≤ P) (hbG : base ≤ G.next) {z : List Value} (hz : z.length = 7) : ∀ (rest : List C5) (j : Nat) (H : Heap), l.drop j = rest → j + rest.length = n → Keep G.next G H → H.get P = .row z true →
    ∃ H', L2 P 0 a n k (n : Int) (j : Int) H (((lisB rest).getD a70).agg, H') ∧ Keep base H H' := by
  intro rest
  induction rest with
  | nil =>
    intro j H hd hj hk g
    simp only [List.length_nil] at hj
    refine ⟨H.set P (.row a70.cells true), L2_step ?_, Keep.set _ hb⟩
    rw [if_neg (by omega)]
    exact ⟨_, rstAll g (by rw [hz]; rfl), _, _, _, _, _, _, _, ldSet, rfl⟩
  | cons c rest ih =>
    intro j H hd hj hk g
    simp only [List.length_cons] at hj
    obtain ⟨b, o, rfl⟩ := hs.at (by omega)
    have hx := drop_get hd
    have ra := (hs.keep hk).recs C5.z hx
    obtain ⟨H2, s1, s2, s3, s4⟩ := scratchC (H := H) (c := c)
    have hn2 := hk.next
    have g2 : H2.get P = .row z true := by rw [s3.get _ (by omega)]; exact g
    have kb : Keep base H H2 := s3.weak (by omega)
    by_cases e : iand .i64 c.o 2 = 0
    · obtain ⟨H', z', k'⟩ := ih (j + 1) H2 (drop_next hd) (by omega) (hk.trans (s3.weak hk.next)) g2
      have el : lisB (c :: rest) = lisB rest := by conv => lhs; unfold lisB; rw [if_pos e]
      rw [el]
      refine ⟨H', L2_step ?_, kb.trans k'⟩
      rw [if_pos (by omega)]
      refine ⟨b, o, rfl, by omega, by omega, _, _, _, _, _, ra, _, rfl, H2, s1, _, rldc' s2 3, ?_⟩
      rw [if_pos e, i64 (by omega) (by omega)]
      exact_mod_cast z'
    · have el : lisB (c :: rest) = some ⟨2, c, 0⟩ := by conv => lhs; unfold lisB; rw [if_neg e]
      rw [el]
      let r : A7 := ⟨2, c, 0⟩
      refine ⟨H2.set P (.row r.cells true), L2_step ?_, kb.trans (Keep.set _ hb)⟩
      rw [if_pos (by omega)]
      refine ⟨b, o, rfl, by omega, by omega, _, _, _, _, _, ra, _, rfl, H2, s1, _, rldc' s2 3, ?_⟩
      rw [if_neg e]
      exact ⟨_, _, _, _, _, rldAll s2, _, rstAll g2 (by rw [hz]; rfl), _, _, _, _, _, _, _, ldSet, rfl⟩
theorem l0 {a : Option Addr} {n k : Nat} {l : List C5} (hw : Ints .i64 G aw nw kw ws) (hnw : nw ≤ 140737488355328) (hs : Cells G a n k l) (hn : n ≤ 1000000000) (hP : P < G.next) (ap : ¬In1 a P) (hb : base ≤ P) (hbG : base ≤ G.next) {z : List Value} (hz : z.length = 7) : ∀ (rest : List C5) (j : Nat) (H : Heap), l.drop j = rest → j + rest.length = n → Keep G.next G H → H.get P = .row z true →
    ∃ H', L0 aw nw kw free P 0 a n k a n k (n : Int) (j : Int) H (((sendB ws free rest).getD ((lisB l).getD a70)).agg, H') ∧ Keep base H H' := by
  have hcnt := hs.cnt C5.z (by decide)
  intro rest
  induction rest with
  | nil =>
    intro j H hd hj hk g
    simp only [List.length_nil] at hj
    obtain ⟨H', z', k'⟩ := l2 (base := base) hs hn hP ap hb hbG hz l 0 H rfl (by omega) hk g
    refine ⟨H', L0_step ?_, k'⟩
    rw [if_neg (by omega)]
    exact z'
  | cons c rest ih =>
    intro j H hd hj hk g
    simp only [List.length_cons] at hj
    obtain ⟨b, o, rfl⟩ := hs.at (by omega)
    have hx := drop_get hd
    have ra := (hs.keep hk).recs C5.z hx
    obtain ⟨H2, s1, s2, s3, s4⟩ := scratchC (H := H) (c := c)
    have hnG := hk.next
    have k2 := hk.trans (s3.weak hk.next)
    obtain ⟨H3, c3, k3⟩ := F35.ok c (hw.keep k2) hnw
    have g3s : H3.get H.next = .row c.cells true := by rw [k3.get _ (by omega)]; exact s2
    have g3 : H3.get P = .row z true := by rw [k3.get _ (by omega), s3.get _ (by omega)]; exact g
    have n3 := k3.next
    have kH3 : Keep H.next H H3 := s3.trans (k3.weak (by omega))
    by_cases hp : plc c ws ≥ 0
    · obtain ⟨H4, c4, k4⟩ := F36.ok c free H3
      have n4 := k4.next
      have g4s : H4.get H.next = .row c.cells true := by rw [k4.get _ (by omega)]; exact g3s
      have g4 : H4.get P = .row z true := by rw [k4.get _ (by omega)]; exact g3
      have kH4 : Keep H.next H H4 := kH3.trans (k4.weak (by omega))
      by_cases hsd : sendsP c free
      · have el : sendB ws free (c :: rest) = some ⟨1, c, plc c ws⟩ := by conv => lhs; unfold sendB; rw [if_pos ⟨hp, hsd⟩]
        rw [el]
        let r : A7 := ⟨1, c, plc c ws⟩
        refine ⟨H4.set P (.row r.cells true), L0_step ?_, (kH4.weak (by omega)).trans (Keep.set _ hb)⟩
        rw [if_pos (by omega)]
        refine ⟨b, o, rfl, by omega, by omega, _, _, _, _, _, ra, _, rfl, H2, s1, _, _, _, _, _, rldAll s2, _, H3, c3, ?_⟩
        rw [if_pos hp]
        refine ⟨_, _, _, _, _, rldAll g3s, _, H4, c4, L1_step ?_⟩
        rw [if_pos (by simpa using hsd)]
        exact ⟨_, _, _, _, _, rldAll g4s, _, rstAll g4 (by rw [hz]; rfl), _, _, _, _, _, _, _, ldSet, rfl⟩
      · have el : sendB ws free (c :: rest) = sendB ws free rest := by conv => lhs; unfold sendB; rw [if_neg fun c => hsd c.2]
        rw [el]
        obtain ⟨H', z', k'⟩ := ih (j + 1) H4 (drop_next hd) (by omega) (hk.trans (kH4.weak hk.next)) g4
        refine ⟨H', L0_step ?_, (kH4.weak (by omega)).trans k'⟩
        rw [if_pos (by omega)]
        refine ⟨b, o, rfl, by omega, by omega, _, _, _, _, _, ra, _, rfl, H2, s1, _, _, _, _, _, rldAll s2, _, H3, c3, ?_⟩
        rw [if_pos hp]
        refine ⟨_, _, _, _, _, rldAll g3s, _, H4, c4, L1_step ?_⟩
        rw [if_neg (by simpa using hsd), i64 (by omega) (by omega)]
        exact_mod_cast z'
    · have el : sendB ws free (c :: rest) = sendB ws free rest := by conv => lhs; unfold sendB; rw [if_neg fun c => hp c.1]
      rw [el]
      obtain ⟨H', z', k'⟩ := ih (j + 1) H3 (drop_next hd) (by omega) (hk.trans (kH3.weak hk.next)) g3
      refine ⟨H', L0_step ?_, (kH3.weak (by omega)).trans k'⟩
      rw [if_pos (by omega)]
      refine ⟨b, o, rfl, by omega, by omega, _, _, _, _, _, ra, _, rfl, H2, s1, _, _, _, _, _, rldAll s2, _, H3, c3, ?_⟩
      rw [if_neg hp]
      refine L1_step ?_
      rw [if_neg (by simp), i64 (by omega) (by omega)]
      exact_mod_cast z'
theorem ok {H : Heap} {a : Option Addr} {n k : Nat} {l : List C5} (hs : Cells H a n k l) (hn : n ≤ 1000000000) (hw : Ints .i64 H aw nw kw ws) (hnw : nw ≤ 140737488355328) (free : Bool) : ∃ H', Cd 13 [.slice a n k, .slice aw nw kw, .bool free] H = some ((decA ws free l).agg, H') ∧ Keep H.next H H' := by
  obtain ⟨H1, e1, n1, g1, k1⟩ := one H a70.cells
  obtain ⟨a2, k2, H2, c2, o2, p2⟩ := F33.ok (hs.keep k1) hn
  obtain ⟨a3, k3, H3, c3, o3, p3⟩ := F32.ok o2 p2.next hn
  have n2 := p2.next
  have n3 := p3.next
  have ml := mayL_le l
  have hc := hs.cnt C5.z (by decide)
  have g3 : H3.get H.next = .row a70.cells true := by rw [p3.get _ (by omega), p2.get _ (by omega)]; exact g1
  have kH3 : Keep H.next H H3 := (k1.trans (p2.weak (by omega))).trans (p3.weak (by omega))
  obtain ⟨H', z, k'⟩ := l0 (base := H.next) (P := H.next) (free := free) (hw.keep kH3) hnw o3.sl (by omega) (by omega) (fun h => by have := (o3.lt h).1; omega) (Nat.le_refl _) (by omega) (z := a70.cells) rfl (mayL l) 0 H3 rfl (by omega) (Keep.refl _ _) g3
  exact ⟨H', call ⟨_, e1, _, _, _, _, c2, _, _, _, _, c3, z⟩, kH3.trans k'⟩
end F13
namespace F14
variable {G : Heap} {aw : Option Addr} {nw kw : Nat} {ws : List Int} {P : Nat} {free : Bool} {base : Nat} {a : Option Addr} {n k : Nat} {l : List C5}
theorem l2 (hs : Cells G a n k l) (hn : n ≤ 1000000000) (hP : P < G.next) (hb : base ≤ P) (hbG : base ≤ G.next) {z : List Value} (hz : z.length = 7) : ∀ (rest : List C5) (j : Nat) (H : Heap), l.drop j = rest → j + rest.length = n → Keep G.next G H → H.get P = .row z true →
    ∃ H', L2 P 0 a n k (n : Int) (j : Int) H (((lisB (mayL rest)).getD a70).agg, H') ∧ Keep base H H' := by
  intro rest
  induction rest with
  | nil =>
    intro j H hd hj hk g
    simp only [List.length_nil] at hj
    refine ⟨H.set P (.row a70.cells true), L2_step ?_, Keep.set _ hb⟩
    rw [if_neg (by omega)]
    exact ⟨_, rstAll g (by rw [hz]; rfl), _, _, _, _, _, _, _, ldSet, rfl⟩
  | cons c rest ih =>
    intro j H hd hj hk g
    simp only [List.length_cons] at hj
    obtain ⟨b, o, rfl⟩ := hs.at (by omega)
    have hx := drop_get hd
    have ra := (hs.keep hk).recs C5.z hx
    obtain ⟨H2, s1, s2, s3, s4⟩ := scratchC (H := H) (c := c)
    have hn2 := hk.next
    obtain ⟨H3, c3, k3⟩ := F15.ok c H2
    have n3 := k3.next
    have g3s : H3.get H.next = .row c.cells true := by rw [k3.get _ (by omega)]; exact s2
    have g3 : H3.get P = .row z true := by rw [k3.get _ (by omega), s3.get _ (by omega)]; exact g
    have kH3 : Keep H.next H H3 := s3.trans (k3.weak (by omega))
    have skip : lisB (mayL (c :: rest)) = lisB (mayL rest) → (∀ r, L4 P 0 H.next 0 b o n k (n : Int) (j : Int) false H3 r → L2 P 0 (some ⟨b, o, none⟩) n k (n : Int) (j : Int) H r) → ∃ H', L2 P 0 (some ⟨b, o, none⟩) n k (n : Int) (j : Int) H (((lisB (mayL (c :: rest))).getD a70).agg, H') ∧ Keep base H H' := by
      intro el st
      rw [el]
      obtain ⟨H', z', k'⟩ := ih (j + 1) H3 (drop_next hd) (by omega) (hk.trans (kH3.weak hk.next)) g3
      refine ⟨H', st _ (L4_step ?_), (kH3.weak (by omega)).trans k'⟩
      rw [if_neg (by simp), i64 (by omega) (by omega)]
      exact_mod_cast z'
    by_cases hm : mayC c
    · have em : mayL (c :: rest) = c :: mayL rest := by simp [mayL, hm]
      by_cases e : iand .i64 c.o 2 = 0
      · refine skip (by rw [em]; conv => lhs; unfold lisB; rw [if_pos e]) fun r hr => L2_step ?_
        rw [if_pos (by omega)]
        refine ⟨b, o, rfl, by omega, by omega, _, _, _, _, _, ra, _, rfl, H2, s1, _, _, _, _, _, rldAll s2, _, H3, c3, ?_⟩
        rw [if_pos (by simpa using hm)]
        refine ⟨_, rldc' g3s 3, ?_⟩
        rw [e]; exact hr
      · have el : lisB (mayL (c :: rest)) = some ⟨2, c, 0⟩ := by rw [em]; conv => lhs; unfold lisB; rw [if_neg e]
        rw [el]
        let r : A7 := ⟨2, c, 0⟩
        refine ⟨H3.set P (.row r.cells true), L2_step ?_, (kH3.weak (by omega)).trans (Keep.set _ hb)⟩
        rw [if_pos (by omega)]
        refine ⟨b, o, rfl, by omega, by omega, _, _, _, _, _, ra, _, rfl, H2, s1, _, _, _, _, _, rldAll s2, _, H3, c3, ?_⟩
        rw [if_pos (by simpa using hm)]
        refine ⟨_, rldc' g3s 3, L4_step ?_⟩
        rw [if_pos (by simp [e])]
        exact ⟨_, _, _, _, _, rldAll g3s, _, rstAll g3 (by rw [hz]; rfl), _, _, _, _, _, _, _, ldSet, rfl⟩
    · have em : mayL (c :: rest) = mayL rest := by simp [mayL, hm]
      refine skip (by rw [em]) fun r hr => L2_step ?_
      rw [if_pos (by omega)]
      refine ⟨b, o, rfl, by omega, by omega, _, _, _, _, _, ra, _, rfl, H2, s1, _, _, _, _, _, rldAll s2, _, H3, c3, ?_⟩
      rw [if_neg (by simpa using hm)]
      exact hr
/-- The loop over what waits. -/
theorem l3 {H : Heap} {c : C5} {S b13 o13 n13 k13 : Nat} {i14 i15 : Int} {z : List Value} (hw : Ints .i64 H aw nw kw ws) (hnw : nw ≤ 140737488355328) (g : H.get P = .row z true) (hz : z.length = 7) (gS : H.get S = .row c.cells true) {a0 : Option Addr} {n0 k0 : Nat} {r : Value × Heap} :
    ∀ (rest : List Int) (i : Nat), ws.drop i = rest → i + rest.length = nw → (if 0 ≤ plc c rest then r = (A7.agg ⟨1, c, i + plc c rest⟩, H.set P (.row (A7.cells ⟨1, c, i + plc c rest⟩) true)) else L0 a0 n0 k0 aw nw kw free P 0 (some ⟨b13, o13, none⟩) n13 k13 i14 (IntKind.wrap .i64 (i15 + 1)) H r) →
      L3 a0 n0 k0 aw nw kw free P 0 S 0 b13 o13 n13 k13 i14 i15 aw nw kw (nw : Int) (i : Int) H r := by
  intro rest
  induction rest with
  | nil =>
    intro i hd hi h
    simp only [List.length_nil] at hi
    rw [if_neg (by simp [plc])] at h
    refine L3_step ?_
    rw [if_neg (by omega)]
    exact h
  | cons w rest ih =>
    intro i hd hi h
    simp only [List.length_cons] at hi
    obtain ⟨b, o, rfl⟩ := hw.at (by omega)
    have hx := drop_get hd
    have hple := plc_le c rest
    have hit : (c.p = 64 ∨ c.p = w) → L5 a0 n0 k0 (some ⟨b, o, none⟩) nw kw free P 0 S 0 (i : Int) b13 o13 n13 k13 i14 i15 b o nw kw (nw : Int) (i : Int) true H r := by
      intro e
      have ep : plc c (w :: rest) = 0 := by unfold plc; rw [if_pos e]
      rw [ep, if_pos (by omega), Int.add_zero] at h
      refine L5_step ?_
      rw [if_pos rfl]
      exact ⟨_, _, _, _, _, rldAll gS, _, rstAll (us := A7.cells ⟨1, c, (i : Int)⟩) g (by rw [hz]; rfl), _, _, _, _, _, _, _, ldSet, h⟩
    refine L3_step ?_
    rw [if_pos (by omega)]
    refine ⟨b, o, rfl, by omega, by omega, w, Ints.get hw hx, _, rldc' gS 4, ?_⟩
    by_cases h64 : c.p = 64
    · rw [if_pos h64]
      exact hit (.inl h64)
    · rw [if_neg h64]
      refine ⟨_, rldc' gS 4, ?_⟩
      by_cases e : c.p = w
      · rw [show (c.p == w) = true from beq_iff_eq.2 e]
        exact hit (.inr e)
      · rw [show (c.p == w) = false from beq_eq_false_iff_ne.2 e]
        refine L5_step ?_
        rw [if_neg (by simp), i64 (by omega) (by omega)]
        have ep : plc c (w :: rest) = if plc c rest < 0 then -1 else plc c rest + 1 := by conv => lhs; unfold plc; rw [if_neg (fun c => by rcases c with c | c; exact h64 c; exact e c)]
        have := ih (i + 1) (drop_next hd) (by omega) (by
          rw [ep] at h
          by_cases h0 : plc c rest < 0
          · rw [if_pos h0, if_neg (by omega)] at h
            rw [if_neg (by omega)]; exact h
          · rw [if_neg h0, if_pos (by omega)] at h
            rw [if_pos (by omega), show ((i + 1 : Nat) : Int) + plc c rest = (i : Int) + (plc c rest + 1) by omega]; exact h)
        exact_mod_cast this
theorem l0 (hw : Ints .i64 G aw nw kw ws) (hnw : nw ≤ 140737488355328) (hs : Cells G a n k l) (hn : n ≤ 1000000000) (hP : P < G.next) (hb : base ≤ P) (hbG : base ≤ G.next) {z : List Value} (hz : z.length = 7) : ∀ (rest : List C5) (j : Nat) (H : Heap), l.drop j = rest → j + rest.length = n → Keep G.next G H → H.get P = .row z true →
    ∃ H', L0 a n k aw nw kw free P 0 a n k (n : Int) (j : Int) H (((sendB ws free (mayL rest)).getD ((lisB (mayL l)).getD a70)).agg, H') ∧ Keep base H H' := by
  have hcnt := hs.cnt C5.z (by decide)
  have hwl := hw.ln
  intro rest
  induction rest with
  | nil =>
    intro j H hd hj hk g
    simp only [List.length_nil] at hj
    obtain ⟨H', z', k'⟩ := l2 (base := base) hs hn hP hb hbG hz l 0 H rfl (by omega) hk g
    refine ⟨H', L0_step ?_, k'⟩
    rw [if_neg (by omega)]
    exact z'
  | cons c rest ih =>
    intro j H hd hj hk g
    simp only [List.length_cons] at hj
    obtain ⟨b, o, rfl⟩ := hs.at (by omega)
    have hx := drop_get hd
    have ra := (hs.keep hk).recs C5.z hx
    obtain ⟨H2, s1, s2, s3, s4⟩ := scratchC (H := H) (c := c)
    have hnG := hk.next
    obtain ⟨H3, c3, k3⟩ := F15.ok c H2
    have n3 := k3.next
    have g3s : H3.get H.next = .row c.cells true := by rw [k3.get _ (by omega)]; exact s2
    have g3 : H3.get P = .row z true := by rw [k3.get _ (by omega), s3.get _ (by omega)]; exact g
    have kH3 : Keep H.next H H3 := s3.trans (k3.weak (by omega))
    have k3G := hk.trans (kH3.weak hk.next)
    obtain ⟨H', z', k'⟩ := ih (j + 1) H3 (drop_next hd) (by omega) k3G g3
    have z' : L0 (some ⟨b, o, none⟩) n k aw nw kw free P 0 (some ⟨b, o, none⟩) n k (n : Int) (IntKind.wrap .i64 ((j : Int) + 1)) H3 (((sendB ws free (mayL rest)).getD ((lisB (mayL l)).getD a70)).agg, H') := by
      rw [i64 (by omega) (by omega)]; exact_mod_cast z'
    have pre : ∀ r, (if mayC c ∧ sendsP c free then L1 (some ⟨b, o, none⟩) n k aw nw kw free P 0 H.next 0 b o n k (n : Int) (j : Int) false H3 r else L1 (some ⟨b, o, none⟩) n k aw nw kw free P 0 H.next 0 b o n k (n : Int) (j : Int) true H3 r) → L0 (some ⟨b, o, none⟩) n k aw nw kw free P 0 (some ⟨b, o, none⟩) n k (n : Int) (j : Int) H r := by
      intro r hr
      refine L0_step ?_
      rw [if_pos (by omega)]
      refine ⟨b, o, rfl, by omega, by omega, _, _, _, _, _, ra, _, rfl, H2, s1, _, _, _, _, _, rldAll s2, _, H3, c3, ?_⟩
      by_cases hm : mayC c
      · rw [if_pos (by simpa using hm)]
        refine ⟨_, rldc' g3s 3, ?_⟩
        by_cases h1 : iand .i64 c.o 1 = 0
        · rw [if_neg (fun h => h.2.1 h1)] at hr
          rw [if_pos h1]; exact hr
        · rw [if_neg h1]
          refine ⟨_, rldc' g3s 3, ?_⟩
          by_cases h4 : iand .i64 c.o 4 = 0
          · rw [if_pos ⟨hm, h1, .inl h4⟩] at hr
            rw [if_pos h4]; exact hr
          · rw [if_neg h4]
            cases free
            · rw [if_neg (fun h => by rcases h.2.2 with h | h; exact h4 h; cases h)] at hr
              exact hr
            · rw [if_pos ⟨hm, h1, .inr rfl⟩] at hr
              exact hr
      · rw [if_neg (fun h => hm h.1)] at hr
        rw [if_neg (by simpa using hm)]; exact hr
    by_cases hc : mayC c ∧ sendsP c free
    · have em : mayL (c :: rest) = c :: mayL rest := by simp [mayL, hc.1]
      rw [em]
      by_cases hp : 0 ≤ plc c ws
      · have el : sendB ws free (c :: mayL rest) = some ⟨1, c, plc c ws⟩ := by conv => lhs; unfold sendB; rw [if_pos ⟨hp, hc.2⟩]
        rw [el]
        refine ⟨H3.set P (.row (A7.cells ⟨1, c, plc c ws⟩) true), pre _ ?_, (kH3.weak (by omega)).trans (Keep.set _ hb)⟩
        rw [if_pos hc]
        refine L1_step ?_
        rw [if_neg (by simp)]
        have := l3 (H := H3) (c := c) (S := H.next) (b13 := b) (o13 := o) (n13 := n) (k13 := k) (i14 := (n : Int)) (i15 := (j : Int)) (free := free) (a0 := some ⟨b, o, none⟩) (n0 := n) (k0 := k) (hw.keep k3G) hnw g3 hz g3s (r := (A7.agg ⟨1, c, plc c ws⟩, H3.set P (.row (A7.cells ⟨1, c, plc c ws⟩) true))) ws 0 rfl (by omega) (by rw [if_pos hp]; simp)
        simpa using this
      · have el : sendB ws free (c :: mayL rest) = sendB ws free (mayL rest) := by conv => lhs; unfold sendB; rw [if_neg fun c => hp c.1]
        rw [el]
        refine ⟨H', pre _ ?_, (kH3.weak (by omega)).trans k'⟩
        rw [if_pos hc]
        refine L1_step ?_
        rw [if_neg (by simp)]
        have := l3 (H := H3) (c := c) (S := H.next) (b13 := b) (o13 := o) (n13 := n) (k13 := k) (i14 := (n : Int)) (i15 := (j : Int)) (free := free) (a0 := some ⟨b, o, none⟩) (n0 := n) (k0 := k) (hw.keep k3G) hnw g3 hz g3s ws 0 rfl (by omega) (by rw [if_neg hp]; exact z')
        simpa using this
    · have el : sendB ws free (mayL (c :: rest)) = sendB ws free (mayL rest) := by
        by_cases hm : mayC c
        · have em : mayL (c :: rest) = c :: mayL rest := by simp [mayL, hm]
          rw [em]; conv => lhs; unfold sendB; rw [if_neg fun h => hc ⟨hm, h.2⟩]
        · have em : mayL (c :: rest) = mayL rest := by simp [mayL, hm]
          rw [em]
      rw [el]
      refine ⟨H', pre _ ?_, (kH3.weak (by omega)).trans k'⟩
      rw [if_neg hc]
      refine L1_step ?_
      rw [if_pos rfl]
      exact z'
theorem ok {H : Heap} (hs : Cells H a n k l) (hn : n ≤ 1000000000) (hw : Ints .i64 H aw nw kw ws) (hnw : nw ≤ 140737488355328) (free : Bool) : ∃ H', Cd 14 [.slice a n k, .slice aw nw kw, .bool free] H = some ((decA ws free l).agg, H') ∧ Keep H.next H H' := by
  obtain ⟨H1, e1, n1, g1, k1⟩ := one H a70.cells
  have hc := hs.cnt C5.z (by decide)
  obtain ⟨H', z, k'⟩ := l0 (base := H.next) (P := H.next) (free := free) (hw.keep k1) hnw (hs.keep k1) hn (by omega) (Nat.le_refl _) (by omega) (z := a70.cells) rfl l 0 H1 rfl (by omega) (Keep.refl _ _) g1
  exact ⟨H', call ⟨_, e1, z⟩, k1.trans k'⟩
end F14
namespace F12
theorem ok (H : Heap) : ∃ H', Cd 12 [] H = some (.bool true, H') ∧ Keep H.next H H' := by
  let l : List C5 := [⟨0, 0, 0, 2, 64⟩, ⟨0, 0, 1, 1, 3⟩]
  obtain ⟨H1, H2, e1, e2, n1, n2, g1, g2, g3, k1, k2⟩ := two H (l.flatMap C5.cells) ([5, 3].map (Value.int .i64))
  have sl : Cells H2 (some ⟨H.next, 0, none⟩) 2 (UNK 5) l := ⟨rfl, .inr (.inr ⟨H.next, 0, rfl, rfl, by omega, _, true, g2, by simp [l], by simp [l]⟩)⟩
  have sw : Ints .i64 H2 (some ⟨H1.next, 0, none⟩) 2 (UNK 1) [5, 3] := Sl.ofRow g3 (by omega)
  obtain ⟨H3, c3, k3⟩ := F13.ok sl (by decide) sw (by decide) true
  have ed : decA [5, 3] true l = ⟨1, ⟨0, 0, 1, 1, 3⟩, 1⟩ := by decide +kernel
  rw [ed] at c3
  obtain ⟨H4, e4, n4, g4, k4⟩ := one H3 a70.cells
  have hn3 := k3.next
  let r : A7 := ⟨1, ⟨0, 0, 1, 1, 3⟩, 1⟩
  have w5 : stc H4 H3.next 0 r.cells = some (H4.set H3.next (.row r.cells true)) := rstAll g4 rfl
  have g5 : (H4.set H3.next (.row r.cells true)).get H3.next = .row r.cells true := by simp
  refine ⟨H4.set H3.next (.row r.cells true), call ⟨_, e1, _, e2, _, _, _, _, _, _, _, H3, c3, _, e4, _, w5, _, rldc' g5 0, ?_⟩, ((k2.trans (k3.weak (by omega))).trans (k4.weak (by omega))).trans (Keep.set _ (show H.next ≤ H3.next by omega))⟩
  rw [if_pos rfl]
  refine ⟨_, rldc' g5 6, ?_⟩
  rw [if_pos rfl]
  exact ⟨_, rldc' g5 3, rfl⟩
end F12
abbrev TC5 : Ty := .strct (.pair (.int .i64) (.pair (.int .i64) (.pair (.int .i64) (.pair (.int .i64) (.pair (.int .i64) .unit)))))
theorem c5Of {H : Heap} {vs : List Value} (h : Holds H TC5 vs) : ∃ c : C5, vs = c.cells ∧ True := by
  obtain ⟨_, _, rfl, ⟨a, rfl, _⟩, _, _, rfl, ⟨b, rfl, _⟩, _, _, rfl, ⟨c, rfl, _⟩, _, _, rfl, ⟨d, rfl, _⟩, _, _, rfl, ⟨e, rfl, _⟩, rfl⟩ := h
  exact ⟨⟨a, b, c, d, e⟩, rfl, trivial⟩
namespace F3
theorem ok {H : Heap} {a aw : Option Addr} {n k nw kw : Nat} {l : List C5} {ws : List Int} (hs : Cells H a n k l) (hw : Ints .i64 H aw nw kw ws) (free : Bool) : ∃ H', Cd 3 [.slice a n k, .slice aw nw kw, .bool free] H = some (.bool true, H') := by
  have bad : ∃ H', L0 a n k aw nw kw free true H (.bool true, H') := by
    obtain ⟨H', c, _⟩ := F12.ok H
    refine ⟨H', L0_step ?_⟩
    rw [if_pos rfl]
    exact ⟨_, _, c, rfl⟩
  obtain ⟨HB, zb⟩ := bad
  by_cases h1 : (n : Int) > 100
  · exact ⟨HB, call (by rw [if_pos h1]; exact zb)⟩
  by_cases h2 : (nw : Int) > 100
  · exact ⟨HB, call (by rw [if_neg h1, decide_eq_true h2]; exact zb)⟩
  obtain ⟨H2, c2, k2⟩ := F13.ok hs (by omega) hw (by omega) free
  obtain ⟨H3, c3, k3⟩ := F14.ok (hs.keep k2) (by omega) (hw.keep k2) (by omega) free
  obtain ⟨H', c, _⟩ := F12.ok H3
  refine ⟨H', call ?_⟩
  rw [if_neg h1, decide_eq_false h2]
  refine L0_step ?_
  rw [if_neg (by simp)]
  refine ⟨_, _, _, _, _, _, _, _, c2, _, _, _, _, _, _, _, _, c3, ?_⟩
  rw [if_pos (by simp)]
  exact ⟨_, _, c, rfl⟩
theorem law {H : Heap} {ds : List (List Value)} (h : HoldsAll H [.slice TC5 40, .slice (.int .i64) 8, .bool] ds) : ∃ H', Cd 3 (vals [.slice TC5 40, .slice (.int .i64) 8, .bool] ds) H = some (.bool true, H') := by
  obtain ⟨d0, _, rfl, h0, h⟩ := h.cons
  obtain ⟨d1, _, rfl, h1, h⟩ := h.cons
  obtain ⟨d2, _, rfl, h2, h⟩ := h.cons
  obtain rfl := h.nil
  obtain ⟨a, n, k, l, rfl, s, _, _, _⟩ := h0.recs (f := C5.cells) (Q := fun _ => True) fun vs hv => c5Of hv
  obtain ⟨a', n', k', ws, rfl, s', _, _⟩ := h1.ints
  obtain ⟨b, rfl⟩ := h2.b
  exact ok s s' b
end F3
end Go.X
