/- The laws SlotWaits, SlotFirst. -/
import Derived.Test.YtomibdncbioijaaXzLd2
import Derived.Test.YtomibdncbioijaaXzTdB
import Derived.Test.YtomibdncbioijaaXzTdC
set_option linter.unusedVariables false
set_option linter.unusedSimpArgs false
set_option maxRecDepth 20000
namespace Go.X
open Go Go.RowKit Go.Proofs
theorem plc_app (c : C5) (m : Int) : ∀ ws : List Int, plc c (ws ++ [m]) = if 0 ≤ plc c ws then plc c ws else if c.p = 64 ∨ c.p = m then (ws.length : Int) else -1
  | [] => by
    show plc c [m] = _
    unfold plc
    by_cases h : c.p = 64 ∨ c.p = m
    · rw [if_pos h, if_neg (by simp [plc]), if_pos h]; rfl
    · rw [if_neg h]; simp [plc, h]
  | w :: ws => by
    have ih := plc_app c m ws
    have hl := plc_le c ws
    rw [List.cons_append]
    conv => lhs; unfold plc
    by_cases e : c.p = 64 ∨ c.p = w
    · have : plc c (w :: ws) = 0 := by unfold plc; rw [if_pos e]
      rw [if_pos e, this, if_pos (by omega)]
    · have : plc c (w :: ws) = if plc c ws < 0 then -1 else plc c ws + 1 := by conv => lhs; unfold plc; rw [if_neg e]
      rw [if_neg e, ih, this]
      by_cases h0 : 0 ≤ plc c ws
      · rw [if_pos h0, if_neg (by omega), if_pos (show 0 ≤ plc c ws + 1 by omega)]
      · rw [if_neg h0, if_pos (show plc c ws < 0 by omega), if_neg (show ¬(0 : Int) ≤ -1 by omega)]
        by_cases h1 : c.p = 64 ∨ c.p = m
        · rw [if_pos h1, if_pos h1, if_neg (by omega), List.length_cons]; omega
        · rw [if_neg h1, if_neg h1, if_pos (by omega)]
theorem plc_mem {c : C5} {t : Int} (h : c.p = 64 ∨ c.p = t) : ∀ {ws : List Int}, t ∈ ws → 0 ≤ plc c ws
  | w :: ws, hm => by
    unfold plc
    by_cases e : c.p = 64 ∨ c.p = w
    · rw [if_pos e]; omega
    · rw [if_neg e]
      have hm : t ∈ ws := by
        rcases List.mem_cons.1 hm with rfl | hm
        · exact absurd h e
        · exact hm
      have := plc_mem h hm
      rw [if_neg (by omega)]; omega
theorem sendB_some {ws : List Int} {free : Bool} : ∀ {l : List C5} {a : A7}, sendB ws free l = some a → ∃ c ∈ l, a = ⟨1, c, plc c ws⟩ ∧ 0 ≤ plc c ws ∧ sendsP c free
  | c :: l, a, h => by
    unfold sendB at h
    by_cases e : 0 ≤ plc c ws ∧ sendsP c free
    · rw [if_pos e] at h
      exact ⟨c, by simp, (Option.some.inj h).symm, e.1, e.2⟩
    · rw [if_neg e] at h
      obtain ⟨d, hd, r⟩ := sendB_some h
      exact ⟨d, by simp [hd], r⟩
theorem sendB_none {ws : List Int} {free : Bool} : ∀ {l : List C5}, sendB ws free l = none → ∀ c ∈ l, ¬(0 ≤ plc c ws ∧ sendsP c free)
  | c :: l, h, d, hd => by
    unfold sendB at h
    by_cases e : 0 ≤ plc c ws ∧ sendsP c free
    · rw [if_pos e] at h; cases h
    · rw [if_neg e] at h
      rcases List.mem_cons.1 hd with rfl | hd
      · exact e
      · exact sendB_none h d hd
theorem sendB_append {ws : List Int} {free : Bool} {a : A7} : ∀ {l m : List C5}, sendB ws free l = some a → sendB ws free (l ++ m) = some a
  | c :: l, m, h => by
    rw [List.cons_append]
    unfold sendB at h ⊢
    by_cases e : 0 ≤ plc c ws ∧ sendsP c free
    · rw [if_pos e] at h ⊢; exact h
    · rw [if_neg e] at h ⊢; exact sendB_append h
theorem sendB_nil (free : Bool) : ∀ l : List C5, sendB [] free l = none
  | [] => rfl
  | c :: l => by unfold sendB; rw [if_neg (by simp [plc]), sendB_nil free l]
theorem sendB_more {ws : List Int} {free : Bool} (m : Int) : ∀ l : List C5, sendB (ws ++ [m]) free l = sendB ws free l ∨ ∃ c ∈ l, sendB (ws ++ [m]) free l = some ⟨1, c, (ws.length : Int)⟩
  | [] => .inl rfl
  | c :: l => by
    have hp := plc_app c m ws
    unfold sendB
    by_cases e : 0 ≤ plc c ws ∧ sendsP c free
    · left
      rw [if_pos e.1] at hp
      rw [hp]
      simp only [e, and_self, if_true]
    · rw [if_neg e]
      by_cases e2 : 0 ≤ plc c (ws ++ [m]) ∧ sendsP c free
      · right
        have h0 : ¬0 ≤ plc c ws := fun h => e ⟨h, e2.2⟩
        rw [if_neg h0] at hp
        by_cases e3 : c.p = 64 ∨ c.p = m
        · rw [if_pos e3] at hp
          exact ⟨c, by simp, by rw [if_pos e2, hp]⟩
        · rw [if_neg e3] at hp
          rw [hp] at e2; exact absurd e2.1 (by decide)
      · rw [if_neg e2]
        rcases sendB_more m l with h | ⟨d, hd, h⟩
        · exact .inl h
        · exact .inr ⟨d, by simp [hd], h⟩
theorem lisB_some : ∀ {l : List C5} {a : A7}, lisB l = some a → ∃ c ∈ l, a = ⟨2, c, 0⟩ ∧ iand .i64 c.o 2 ≠ 0
  | c :: l, a, h => by
    unfold lisB at h
    by_cases e : iand .i64 c.o 2 = 0
    · rw [if_pos e] at h
      obtain ⟨d, hd, r⟩ := lisB_some h
      exact ⟨d, by simp [hd], r⟩
    · rw [if_neg e] at h
      exact ⟨c, by simp, (Option.some.inj h).symm, e⟩
theorem mayL_mem {l : List C5} {c : C5} (h : c ∈ mayL l) : c ∈ l ∧ mayC c := by
  have := List.mem_filter.1 h
  exact ⟨this.1, by simpa using this.2⟩
theorem dec_cases (ws : List Int) (free : Bool) (l : List C5) :
    (∃ c, sendB ws free (mayL l) = some ⟨1, c, plc c ws⟩ ∧ decA ws free l = ⟨1, c, plc c ws⟩ ∧ c ∈ mayL l ∧ 0 ≤ plc c ws ∧ sendsP c free) ∨
    (sendB ws free (mayL l) = none ∧ ∃ c, lisB (mayL l) = some ⟨2, c, 0⟩ ∧ decA ws free l = ⟨2, c, 0⟩ ∧ iand .i64 c.o 2 ≠ 0) ∨
    (sendB ws free (mayL l) = none ∧ lisB (mayL l) = none ∧ decA ws free l = a70) := by
  unfold decA
  cases h : sendB ws free (mayL l) with
  | some a =>
    obtain ⟨c, hc, rfl, h1, h2⟩ := sendB_some h
    exact .inl ⟨c, rfl, rfl, hc, h1, h2⟩
  | none =>
    right
    cases h2 : lisB (mayL l) with
    | some a =>
      obtain ⟨c, hc, rfl, h3⟩ := lisB_some h2
      exact .inl ⟨rfl, c, rfl, rfl, h3⟩
    | none => exact .inr ⟨rfl, rfl, rfl⟩
namespace F5
theorem l1 {H : Heap} {aw : Option Addr} {nw kw : Nat} {ws : List Int} {more : Int} {l : List C5} {p7 p8 p9 : Nat} (hl : ws.length = nw) (g7 : H.get p7 = .row (decA [] true l).cells true) (g8 : H.get p8 = .row (decA ws true l).cells true) (g9 : H.get p9 = .row (decA (ws ++ [more]) true l).cells true) :
    ∃ H', L1 aw nw kw p7 0 p8 0 p9 0 false H (.bool true, H') := by
  obtain ⟨H', c, _⟩ := F12.ok H
  have hn : decA [] true l = (lisB (mayL l)).getD a70 := by unfold decA; rw [sendB_nil]; rfl
  have hb := sendB_more (ws := ws) (free := true) more (mayL l)
  rcases dec_cases ws true l with ⟨d, s1, s2, s3, s4, s5⟩ | hr
  · -- it sends
    have b1 : (decA (ws ++ [more]) true l).k = 1 ∧ (decA (ws ++ [more]) true l = decA ws true l ∨ (decA (ws ++ [more]) true l).at_ = (nw : Int)) := by
      rcases hb with hb | ⟨e, he, hb⟩
      · have : decA (ws ++ [more]) true l = decA ws true l := by unfold decA; rw [hb]
        rw [this]
        exact ⟨by rw [s2], .inl rfl⟩
      · have : decA (ws ++ [more]) true l = ⟨1, e, (ws.length : Int)⟩ := by unfold decA; rw [hb]; rfl
        rw [this]
        exact ⟨rfl, .inr (by rw [hl])⟩
    refine ⟨H', L1_step ?_⟩
    rw [if_neg (by simp)]
    refine ⟨_, rldc' g8 0, ?_⟩
    rw [if_pos (by rw [s2])]
    refine ⟨_, rldc' g9 0, ?_⟩
    rw [if_pos b1.1]
    refine ⟨_, rldc' g9 6, _, rldc' g8 6, ?_⟩
    have la : ∀ {q : Nat} {a : A7}, H.get q = .row a.cells true → ldAll H q (0 + 1) a.c.cells := fun {q a} g => ⟨rldc' g 1, rldc' g 2, rldc' g 3, rldc' g 4, rldc' g 5, trivial⟩
    by_cases e1 : (decA (ws ++ [more]) true l).at_ = (decA ws true l).at_
    · rw [if_pos e1]
      refine ⟨_, _, _, _, _, la g9, _, _, _, _, _, la g8, ?_⟩
      rcases b1.2 with h | h
      · rw [if_pos (by rw [h]; simp)]
        exact ⟨_, _, c, rfl⟩
      · split
        · exact ⟨_, _, c, rfl⟩
        · refine ⟨_, rldc' g9 6, ?_⟩
          rw [if_pos h]
          exact ⟨_, _, c, rfl⟩
    · rw [if_neg e1]
      refine ⟨_, rldc' g9 6, ?_⟩
      rw [if_pos (b1.2.resolve_left fun h => e1 (by rw [h]))]
      exact ⟨_, _, c, rfl⟩
  · -- it does not
    have ea : decA ws true l = decA [] true l := by
      rw [hn]
      rcases hr with ⟨_, d, h1, h2, _⟩ | ⟨_, h1, h2⟩
      · rw [h2, h1]; rfl
      · rw [h2, h1]; rfl
    have s1 : sendB ws true (mayL l) = none := by
      rcases hr with ⟨s1, _⟩ | ⟨s1, _⟩ <;> exact s1
    have hk : (decA ws true l).k ≠ 1 := by
      rcases hr with ⟨_, d, h1, h2, _⟩ | ⟨_, h1, h2⟩
      · rw [h2]; exact (show (2 : Int) ≠ 1 by decide)
      · rw [h2]; decide
    obtain ⟨H', c, _⟩ := F12.ok H
    rcases hb with hb | ⟨e, he, hb⟩
    · have eb : decA (ws ++ [more]) true l = decA [] true l := by rw [← ea]; unfold decA; rw [hb]
      refine ⟨H', L1_step ?_⟩
      rw [if_neg (by simp)]
      refine ⟨_, rldc' g8 0, ?_⟩
      rw [if_neg hk]
      refine ⟨_, _, _, _, _, _, _, rldAll g8, _, _, _, _, _, _, _, rldAll g7, ?_⟩
      rw [if_pos (by rw [ea]; simp)]
      refine ⟨_, _, _, _, _, _, _, rldAll g9, _, _, _, _, _, _, _, rldAll g7, ?_⟩
      rw [if_pos (by rw [eb]; simp)]
      exact ⟨_, _, c, rfl⟩
    · have eb : decA (ws ++ [more]) true l = ⟨1, e, (ws.length : Int)⟩ := by unfold decA; rw [hb]; rfl
      obtain ⟨H2, c2, k2⟩ := F15.ok e H
      obtain ⟨H3, c3, _⟩ := F12.ok H2
      have la : ldAll H p9 (0 + 1) e.cells := by rw [eb] at g9; exact ⟨rldc' g9 1, rldc' g9 2, rldc' g9 3, rldc' g9 4, rldc' g9 5, trivial⟩
      have nb : ∀ (x : A7), decA [] true l = x → x.k ≠ 1 := fun x hx => by rw [← hx, ← ea]; exact hk
      refine ⟨H3, L1_step ?_⟩
      rw [if_neg (by simp)]
      refine ⟨_, rldc' g8 0, ?_⟩
      rw [if_neg hk]
      refine ⟨_, _, _, _, _, _, _, rldAll g8, _, _, _, _, _, _, _, rldAll g7, ?_⟩
      rw [if_pos (by rw [ea]; simp)]
      refine ⟨_, _, _, _, _, _, _, rldAll g9, _, _, _, _, _, _, _, rldAll g7, ?_⟩
      rw [if_neg (by
        rw [eb, show (((1 : Int) == (decA [] true l).k) = false) from beq_eq_false_iff_ne.2 fun h => nb _ rfl h.symm]; simp)]
      refine ⟨_, rldc' g9 0, ?_⟩
      rw [if_pos (by rw [eb])]
      refine ⟨_, rldc' g9 6, ?_⟩
      rw [if_pos (by rw [eb, hl])]
      refine ⟨_, _, _, _, _, la, _, H2, c2, ?_⟩
      rw [if_pos (by simpa using (mayL_mem he).2)]
      exact ⟨_, _, c3, rfl⟩
theorem ok {H : Heap} {a aw : Option Addr} {n k nw kw : Nat} {l : List C5} {ws : List Int} (hs : Cells H a n k l) (hw : Ints .i64 H aw nw kw ws) (more : Int) : ∃ H', Cd 5 [.slice a n k, .slice aw nw kw, .int .i64 more] H = some (.bool true, H') := by
  have hwl := hw.ln
  have bad : ∃ H', L0 a n k aw nw kw more true H (.bool true, H') := by
    obtain ⟨H', c, _⟩ := F12.ok H
    refine ⟨H', L0_step ?_⟩
    rw [if_pos rfl]
    exact ⟨_, _, c, rfl⟩
  obtain ⟨HB, zb⟩ := bad
  by_cases h1 : (n : Int) > 60
  · exact ⟨HB, call (by rw [if_pos h1]; exact zb)⟩
  by_cases h2 : (nw : Int) > 60
  · exact ⟨HB, call (by rw [if_neg h1, decide_eq_true h2]; exact zb)⟩
  obtain ⟨H2, c2, k2⟩ := F13.ok hs (by omega) (Ints.nil (K := .i64)) (by omega) true
  obtain ⟨H3, e3, n3, g3, k3⟩ := one H2 a70.cells
  let X4 := H3.set H2.next (.row (decA [] true l).cells true)
  have w4 : stc H3 H2.next 0 (decA [] true l).cells = some X4 := rstAll g3 rfl
  have g4 : X4.get H2.next = .row (decA [] true l).cells true := by simp [X4]
  have k4 : Keep H2.next H2 X4 := k3.trans (Keep.set _ (Nat.le_refl _))
  have n4 : X4.next = H2.next + 1 := n3
  have kH4 : Keep H.next H X4 := k2.trans (k4.weak k2.next)
  have nH2 := k2.next
  obtain ⟨H5, c5, k5⟩ := F13.ok (hs.keep kH4) (by omega) (hw.keep kH4) (by omega) true
  obtain ⟨H6, e6, n6, g6, k6⟩ := one H5 a70.cells
  let X7 := H6.set H5.next (.row (decA ws true l).cells true)
  have w7 : stc H6 H5.next 0 (decA ws true l).cells = some X7 := rstAll g6 rfl
  have g7 : X7.get H5.next = .row (decA ws true l).cells true := by simp [X7]
  have k7 : Keep H5.next H5 X7 := k6.trans (Keep.set _ (Nat.le_refl _))
  have n7 : X7.next = H5.next + 1 := n6
  have nH5 := k5.next
  have kH7 : Keep H.next H X7 := (kH4.trans (k5.weak (by omega))).trans (k7.weak (by omega))
  have e := OwnI.new (K := .i64) X7 []
  have kx : Keep X7.next X7 (X7.push (.row [] true)) := Keep.push _ (Nat.le_refl _)
  obtain ⟨a9, k9, H9, c9, o9, p9⟩ := OwnI.app 8 e ((hw.keep kH7).keep kx) (by simp) (by simp; omega) (by simp; omega)
  simp only [List.length_nil, Nat.zero_add, List.nil_append] at c9 o9
  have p9' : Keep X7.next X7 H9 := kx.trans p9
  have on := OwnI.new (K := .i64) H9 [more]
  have ky : Keep H9.next H9 (H9.push (.row (List.map (Value.int .i64) [more]) true)) := Keep.push _ (Nat.le_refl _)
  have n9 := p9'.next
  obtain ⟨a11, k11, H11, c11, o11, p11⟩ := OwnI.app 8 (o9.keep ky) on.sl (by simp; omega) (by simp; omega) (by simp; omega)
  simp only [List.length_cons, List.length_nil, Nat.zero_add] at c11 o11
  have p11' : Keep X7.next X7 H11 := (p9'.trans (ky.weak n9)).trans p11
  have n11 := p11'.next
  have kH11 : Keep H.next H H11 := kH7.trans (p11'.weak (by omega))
  obtain ⟨H12, c12, k12⟩ := F13.ok (hs.keep kH11) (by omega) o11.sl (by omega) true
  obtain ⟨H13, e13, n13, g13, k13⟩ := one H12 a70.cells
  let X14 := H13.set H12.next (.row (decA (ws ++ [more]) true l).cells true)
  have w14 : stc H13 H12.next 0 (decA (ws ++ [more]) true l).cells = some X14 := rstAll g13 rfl
  have g14 : X14.get H12.next = .row (decA (ws ++ [more]) true l).cells true := by simp [X14]
  have k14 : Keep H12.next H12 X14 := k13.trans (Keep.set _ (Nat.le_refl _))
  have n12 := k12.next
  have kall : Keep X7.next X7 X14 := (p11'.trans (k12.weak (by omega))).trans (k14.weak (by omega))
  have ga : X14.get H5.next = .row (decA ws true l).cells true := by rw [kall.get _ (by omega)]; exact g7
  have gn : X14.get H2.next = .row (decA [] true l).cells true := by rw [kall.get _ (by omega), k7.get _ (by omega), k5.get _ (by omega)]; exact g4
  obtain ⟨H', z⟩ := l1 (aw := aw) (kw := kw) hwl gn ga g14
  have hn : decA [] true l = (lisB (mayL l)).getD a70 := by unfold decA; rw [sendB_nil]; rfl
  have nk : (decA [] true l).k ≠ 1 := by
    rcases dec_cases [] true l with ⟨c, h, _⟩ | ⟨_, c, _, h, _⟩ | ⟨_, _, h⟩
    · rw [sendB_nil] at h; cases h
    · rw [h]; exact (show (2 : Int) ≠ 1 by decide)
    · rw [h]; decide
  refine ⟨H', call ?_⟩
  rw [if_neg h1, decide_eq_false h2]
  refine L0_step ?_
  rw [if_neg (by simp)]
  refine ⟨_, _, _, _, _, _, _, _, c2, _, e3, X4, w4, _, _, _, _, _, _, _, _, c5, _, e6, X7, w7, _, rfl, _, _, _, _, c9, _, rfl, _, _, _, _, c11, _, _, _, _, _, _, _, _, c12, _, e13, X14, w14, _, rldc' gn 0, ?_⟩
  rw [if_neg nk]
  refine ⟨_, rldc' ga 0, ?_⟩
  by_cases hak : (decA ws true l).k = 0
  · rw [if_pos hak]
    refine ⟨_, rldc' gn 0, ?_⟩
    have : (decA [] true l).k = 0 := by
      rcases dec_cases ws true l with ⟨c, _, h, _⟩ | ⟨_, c, _, h, _⟩ | ⟨_, h1, h⟩
      · rw [h] at hak; exact absurd hak (show ¬(1 : Int) = 0 by decide)
      · rw [h] at hak; exact absurd hak (show ¬(2 : Int) = 0 by decide)
      · rw [hn, h1]; rfl
    rw [this]
    exact z
  · rw [if_neg hak]
    exact z
theorem law {H : Heap} {ds : List (List Value)} (h : HoldsAll H [.slice TC5 40, .slice (.int .i64) 8, .int .i64] ds) : ∃ H', Cd 5 (vals [.slice TC5 40, .slice (.int .i64) 8, .int .i64] ds) H = some (.bool true, H') := by
  obtain ⟨d0, _, rfl, h0, h⟩ := h.cons
  obtain ⟨d1, _, rfl, h1, h⟩ := h.cons
  obtain ⟨d2, _, rfl, h2, h⟩ := h.cons
  obtain rfl := h.nil
  obtain ⟨a, n, k, l, rfl, s, _, _, _⟩ := h0.recs (f := C5.cells) (Q := fun _ => True) fun vs hv => c5Of hv
  obtain ⟨a', n', k', ws, rfl, s', _, _⟩ := h1.ints
  obtain ⟨m, rfl, _⟩ := h2.i
  exact ok s s' m
end F5
theorem plc_get {c : C5} (h : c.p ≠ 64) {ws : List Int} (h0 : 0 ≤ plc c ws) : ws[(plc c ws).toNat]? = some c.p := by
  rw [plc_ix h] at h0 ⊢; exact ix_get _ _ h0
namespace F4
variable {G : Heap} {a aw : Option Addr} {n k nw kw : Nat} {l : List C5} {ws : List Int} {free : Bool}
/-- Nothing that may be sent stands there. -/
theorem l4 {H0 : Heap} {c : C5} {S b o nn kk : Nat} {i1 i2 : Int} (hw : Ints .i64 H0 aw nw kw ws) (hnw : nw ≤ 1000) (hS : S < H0.next) (hno : mayC c → ¬(0 ≤ plc c ws ∧ sendsP c free)) (fin : ∀ H, Keep H0.next H0 H → ∃ H', L3 aw nw kw free (some ⟨b, o, none⟩) nn kk i1 (IntKind.wrap .i64 (i2 + 1)) H (.bool true, H')) :
    ∀ (rest : List Int) (i : Nat) (H : Heap), ws.drop i = rest → i + rest.length = nw → Keep H0.next H0 H → H.get S = .row c.cells true → ∃ H', L4 aw nw kw free S 0 b o nn kk i1 i2 aw nw kw (nw : Int) (i : Int) H (.bool true, H') := by
  intro rest
  induction rest with
  | nil =>
    intro i H hd hi hk g
    simp only [List.length_nil] at hi
    obtain ⟨H', z⟩ := fin H hk
    exact ⟨H', L4_step (by rw [if_neg (by omega)]; exact z)⟩
  | cons w rest ih =>
    intro i H hd hi hk g
    simp only [List.length_cons] at hi
    obtain ⟨b2, o2, rfl⟩ := hw.at (by omega)
    have hx := drop_get hd
    obtain ⟨H1, c1, k1⟩ := F15.ok c H
    have hn := hk.next
    have g1 : H1.get S = .row c.cells true := by rw [k1.get _ (by omega)]; exact g
    obtain ⟨H', z⟩ := ih (i + 1) H1 (drop_next hd) (by omega) (hk.trans (k1.weak hk.next)) g1
    have go : L5 (some ⟨b2, o2, none⟩) nw kw free S 0 b o nn kk i1 i2 b2 o2 nw kw (nw : Int) (i : Int) false H1 (.bool true, H') := by
      refine L5_step ?_
      rw [if_neg (by simp), i64 (by omega) (by omega)]
      exact_mod_cast z
    -- what would be sent
    have bad : mayC c → sendsP c free → ¬(c.p = 64 ∨ c.p = w) := fun hm hs hp => hno hm ⟨plc_mem hp (List.mem_of_getElem? hx), hs⟩
    refine ⟨H', L4_step ?_⟩
    rw [if_pos (by omega)]
    refine ⟨b2, o2, rfl, by omega, by omega, w, Ints.get (hw.keep hk) hx, _, _, _, _, _, rldAll g, _, H1, c1, ?_⟩
    by_cases hm : mayC c
    · rw [if_pos (by simpa using hm)]
      refine ⟨_, rldc' g1 3, ?_⟩
      by_cases h1 : iand .i64 c.o 1 = 0
      · rw [if_pos h1]; exact go
      · rw [if_neg h1]
        refine ⟨_, rldc' g1 3, ?_⟩
        have peer : sendsP c free → ∃ (t137 : Int), ldc H1 S (0 + 4) = some (.int .i64 t137) ∧ if t137 = 64 then L5 (some ⟨b2, o2, none⟩) nw kw free S 0 b o nn kk i1 i2 b2 o2 nw kw (nw : Int) (i : Int) true H1 (.bool true, H') else ∃ (t141 : Int), ldc H1 S (0 + 4) = some (.int .i64 t141) ∧ L5 (some ⟨b2, o2, none⟩) nw kw free S 0 b o nn kk i1 i2 b2 o2 nw kw (nw : Int) (i : Int) (t141 == w) H1 (.bool true, H') := by
          intro hs
          have hb := bad hm hs
          refine ⟨_, rldc' g1 4, ?_⟩
          rw [if_neg (fun h => hb (.inl h))]
          refine ⟨_, rldc' g1 4, ?_⟩
          rw [show (c.p == w) = false from beq_eq_false_iff_ne.2 fun h => hb (.inr h)]
          exact go
        by_cases h4 : iand .i64 c.o 4 = 0
        · rw [if_pos h4]
          exact peer ⟨h1, .inl h4⟩
        · rw [if_neg h4]
          by_cases hf : free = true
          · rw [if_pos hf]
            exact peer ⟨h1, .inr hf⟩
          · rw [if_neg hf]; exact go
    · rw [if_neg (by simpa using hm)]; exact go
theorem l3 (hs : Cells G a n k l) (hn : n ≤ 1000) (hw : Ints .i64 G aw nw kw ws) (hnw : nw ≤ 1000) (hno : sendB ws free (mayL l) = none) : ∀ (rest : List C5) (j : Nat) (H : Heap), l.drop j = rest → j + rest.length = n → Keep G.next G H → ∃ H', L3 aw nw kw free a n k (n : Int) (j : Int) H (.bool true, H') := by
  intro rest
  induction rest with
  | nil =>
    intro j H hd hj hk
    simp only [List.length_nil] at hj
    obtain ⟨H', c, _⟩ := F12.ok H
    refine ⟨H', L3_step ?_⟩
    rw [if_neg (by omega)]
    exact ⟨_, _, c, rfl⟩
  | cons c rest ih =>
    intro j H hd hj hk
    simp only [List.length_cons] at hj
    have hwl := hw.ln
    obtain ⟨b, o, rfl⟩ := hs.at (by omega)
    have hx := drop_get hd
    have ra := (hs.keep hk).recs C5.z hx
    obtain ⟨H2, s1, s2, s3, s4⟩ := scratchC (H := H) (c := c)
    have k2 := hk.trans (s3.weak hk.next)
    have hnc : mayC c → ¬(0 ≤ plc c ws ∧ sendsP c free) := fun hm => sendB_none hno c (List.mem_filter.2 ⟨List.mem_of_getElem? hx, by simpa using hm⟩)
    obtain ⟨H', z⟩ := l4 (H0 := H2) (S := H.next) (b := b) (o := o) (nn := n) (kk := k) (i1 := (n : Int)) (i2 := (j : Int)) (free := free) (hw.keep k2) hnw (by omega) hnc (fun X kX => by
      obtain ⟨H', z⟩ := ih (j + 1) X (drop_next hd) (by omega) (k2.trans (kX.weak k2.next))
      refine ⟨H', ?_⟩
      rw [i64 (by omega) (by omega)]
      exact_mod_cast z) ws 0 H2 rfl (by omega) (Keep.refl _ _) s2
    refine ⟨H', L3_step ?_⟩
    rw [if_pos (by omega)]
    exact ⟨b, o, rfl, by omega, by omega, _, _, _, _, _, ra, _, rfl, H2, s1, z⟩
theorem l1 {H : Heap} {am : Option Addr} {nm km : Nat} {more : List C5} {p : Nat} {x : A7} (hs : Cells H a n k l) (hm : Cells H am nm km more) (hw : Ints .i64 H aw nw kw ws) (hn : n ≤ 100) (hnm : nm ≤ 100) (hnw : nw ≤ 100) (hp : p < H.next) (g : H.get p = .row x.cells true) (hx : sendB ws free (mayL l) = some x) :
    ∃ H', L1 a n k am nm km aw nw kw free p 0 false H (.bool true, H') := by
  have e : Own H.next (H.push (.row [] true)) 5 (some ⟨H.next, 0, none⟩) 0 (UNK 5) [] := Own.new rfl
  have k1 : Keep H.next H (H.push (.row [] true)) := Keep.push _ (Nat.le_refl _)
  obtain ⟨a2, k2, H2, c2, o2, p2⟩ := Own.append (by_ := 40) e (hs.keep k1) (by decide) (by simp) (by omega) (by omega)
  simp only [Nat.zero_add, List.nil_append] at c2 o2
  have kH2 := k1.trans p2
  obtain ⟨a3, k3, H3, c3, o3, p3⟩ := Own.append (by_ := 40) o2 (hm.keep kH2) (by decide) kH2.next (by omega) (by omega)
  have kH3 := kH2.trans p3
  have sl : Cells H3 a3 (n + nm) k3 (l ++ more) := by have := o3.sl; rwa [← List.flatMap_append] at this
  obtain ⟨H4, c4, k4⟩ := F13.ok sl (by omega) (hw.keep kH3) (by omega) free
  have ed : decA ws free (l ++ more) = x := by
    unfold decA
    have : mayL (l ++ more) = mayL l ++ mayL more := mayL_append _ _
    rw [this, sendB_append hx]; rfl
  rw [ed] at c4
  obtain ⟨H', c, _⟩ := F12.ok H4
  have nH3 := kH3.next
  have g1 : (H.push (.row [] true)).get p = .row x.cells true := by rw [k1.get _ hp]; exact g
  have g2 : H2.get p = .row x.cells true := by rw [kH2.get _ hp]; exact g
  have g3 : H3.get p = .row x.cells true := by rw [kH3.get _ hp]; exact g
  have g4 : H4.get p = .row x.cells true := by rw [k4.get _ (by omega)]; exact g3
  refine ⟨H', L1_step ?_⟩
  rw [if_neg (by simp)]
  refine ⟨_, rfl, _, _, _, _, c2, _, _, _, _, c3, _, _, _, _, _, _, _, _, c4, _, _, _, _, _, _, _, rldAll g, ?_⟩
  rw [if_pos (by simp)]
  exact ⟨_, _, c, rldAll g1, rldAll g2, rldAll g3, rldAll g4, rfl⟩
theorem ok {H : Heap} {am : Option Addr} {nm km : Nat} {more : List C5} (hs : Cells H a n k l) (hm : Cells H am nm km more) (hw : Ints .i64 H aw nw kw ws) (free : Bool) : ∃ H', Cd 4 [.slice a n k, .slice am nm km, .slice aw nw kw, .bool free] H = some (.bool true, H') := by
  have hwl := hw.ln
  have bad : ∃ H', L0 a n k am nm km aw nw kw free true H (.bool true, H') := by
    obtain ⟨H', c, _⟩ := F12.ok H
    refine ⟨H', L0_step ?_⟩
    rw [if_pos rfl]
    exact ⟨_, _, c, rfl⟩
  obtain ⟨HB, zb⟩ := bad
  by_cases h1 : (n : Int) > 100
  · exact ⟨HB, call (by rw [if_pos h1]; exact zb)⟩
  by_cases h2 : (nw : Int) > 100
  · exact ⟨HB, call (by rw [if_neg h1, if_pos h2]; exact zb)⟩
  by_cases h3 : (nm : Int) > 100
  · exact ⟨HB, call (by rw [if_neg h1, if_neg h2, decide_eq_true h3]; exact zb)⟩
  obtain ⟨H2, c2, k2⟩ := F13.ok hs (by omega) hw (by omega) free
  obtain ⟨H3, e3, n3, g3, k3⟩ := one H2 a70.cells
  let X4 := H3.set H2.next (.row (decA ws free l).cells true)
  have w4 : stc H3 H2.next 0 (decA ws free l).cells = some X4 := rstAll g3 rfl
  have g4 : X4.get H2.next = .row (decA ws free l).cells true := by simp [X4]
  have k4 : Keep H2.next H2 X4 := k3.trans (Keep.set _ (Nat.le_refl _))
  have n4 : X4.next = H2.next + 1 := n3
  have kH4 : Keep H.next H X4 := k2.trans (k4.weak k2.next)
  have hw4 := hw.keep kH4
  have hs4 := hs.keep kH4
  have hm4 := hm.keep kH4
  have go : ∀ {r}, L0 a n k am nm km aw nw kw free false H r → Cd 4 [.slice a n k, .slice am nm km, .slice aw nw kw, .bool free] H = some r := fun z => call (by rw [if_neg h1, if_neg h2, decide_eq_false h3]; exact z)
  rcases dec_cases ws free l with ⟨c, s1, s2, s3, s4, s5⟩ | hr
  · obtain ⟨H', z⟩ := l1 (p := H2.next) (free := free) hs4 hm4 hw4 (by omega) (by omega) (by omega) (by omega) (by rw [s2] at g4; exact g4) s1
    have hlt := plc_le c ws
    rw [s2] at c2 g4 w4
    have la : ∃ H', L1 a n k am nm km aw nw kw free H2.next 0 false X4 (.bool true, H') := ⟨H', z⟩
    have peer : ∃ (t67 : Int), ldc X4 H2.next 5 = some (.int .i64 t67) ∧ if t67 = 64 then L1 a n k am nm km aw nw kw free H2.next 0 false X4 (.bool true, H') else ∃ (t72 : Int), ldc X4 H2.next 5 = some (.int .i64 t72) ∧ ∃ (t75 : Int), ldc X4 H2.next 6 = some (.int .i64 t75) ∧ ∃ (t2ab t2ao : Nat), aw = some ⟨t2ab, t2ao, none⟩ ∧ ((0 : Int) ≤ t75 ∧ t75 < ((nw : Nat) : Int) ∧ ∃ (t77 : Int), ldc X4 t2ab (t2ao + Int.toNat t75 * 1) = some (.int .i64 t77) ∧ L1 a n k am nm km (some ⟨t2ab, t2ao, none⟩) nw kw free H2.next 0 (!(t72 == t77)) X4 (.bool true, H')) := by
      refine ⟨_, rldc' g4 5, ?_⟩
      by_cases h64 : c.p = 64
      · rw [if_pos h64]; exact z
      · rw [if_neg h64]
        obtain ⟨b, o, hb⟩ := hw4.at (by omega)
        have hx := plc_get h64 s4
        have hg := hw4
        rw [hb] at hg
        have hget := Ints.get hg hx
        rw [show (((plc c ws).toNat : Nat) : Int) = plc c ws by omega] at hget
        refine ⟨_, rldc' g4 5, _, rldc' g4 6, b, o, hb, s4, show plc c ws < (nw : Int) by omega, _, hget, ?_⟩
        rw [beq_self_eq_true, ← hb]
        exact z
    refine ⟨H', go (L0_step ?_)⟩
    rw [if_neg (by simp)]
    refine ⟨_, _, _, _, _, _, _, H2, c2, _, e3, X4, w4, _, rldc' g4 0, ?_⟩
    rw [if_pos rfl]
    refine ⟨_, rldc' g4 6, ?_⟩
    rw [if_neg (show ¬plc c ws < 0 by omega)]
    refine ⟨_, rldc' g4 6, ?_⟩
    rw [if_neg (show ¬plc c ws ≥ (nw : Int) by omega)]
    refine ⟨_, rldc' g4 4, ?_⟩
    rw [if_neg s5.1]
    refine ⟨_, rldc' g4 4, ?_⟩
    by_cases h4 : iand .i64 c.o 4 = 0
    · rw [if_pos h4]; exact peer
    · rw [if_neg h4, if_pos (s5.2.resolve_left h4)]; exact peer
  · rcases hr with ⟨s1, c, h5, s2, h6⟩ | ⟨s1, h5, s2⟩
    · obtain ⟨H', z⟩ := l3 (free := free) hs4 (by omega) hw4 (by omega) s1 l 0 X4 rfl (by have := hs.cnt C5.z (by decide); omega) (Keep.refl _ _)
      rw [s2] at c2 g4 w4
      refine ⟨H', go (L0_step ?_)⟩
      rw [if_neg (by simp)]
      refine ⟨_, _, _, _, _, _, _, H2, c2, _, e3, X4, w4, _, rldc' g4 0, ?_⟩
      rw [if_neg (show ¬(2 : Int) = 1 by decide), if_pos rfl]
      refine ⟨_, rldc' g4 4, ?_⟩
      rw [if_neg h6]
      refine ⟨_, rldc' g4 6, L2_step ?_⟩
      rw [if_neg (by simp)]
      exact z
    · obtain ⟨H', cE, _⟩ := F12.ok X4
      rw [s2] at c2 g4 w4
      refine ⟨H', go (L0_step ?_)⟩
      rw [if_neg (by simp)]
      refine ⟨_, _, _, _, _, _, _, H2, c2, _, e3, X4, w4, _, rldc' g4 0, ?_⟩
      rw [if_neg (by decide), if_neg (by decide)]
      refine ⟨_, _, _, _, _, _, _, rldAll g4, ?_⟩
      rw [if_pos (by rfl)]
      exact ⟨_, _, cE, rfl⟩
theorem law {H : Heap} {ds : List (List Value)} (h : HoldsAll H [.slice TC5 40, .slice TC5 40, .slice (.int .i64) 8, .bool] ds) : ∃ H', Cd 4 (vals [.slice TC5 40, .slice TC5 40, .slice (.int .i64) 8, .bool] ds) H = some (.bool true, H') := by
  obtain ⟨d0, _, rfl, h0, h⟩ := h.cons
  obtain ⟨d1, _, rfl, h1, h⟩ := h.cons
  obtain ⟨d2, _, rfl, h2, h⟩ := h.cons
  obtain ⟨d3, _, rfl, h3, h⟩ := h.cons
  obtain rfl := h.nil
  obtain ⟨a, n, k, l, rfl, s, _, _, _⟩ := h0.recs (f := C5.cells) (Q := fun _ => True) fun vs hv => c5Of hv
  obtain ⟨a1, n1, k1, l1, rfl, s1, _, _, _⟩ := h1.recs (f := C5.cells) (Q := fun _ => True) fun vs hv => c5Of hv
  obtain ⟨a', n', k', ws, rfl, s', _, _⟩ := h2.ints
  obtain ⟨b, rfl⟩ := h3.b
  exact ok s s1 s' b
end F4
end Go.X
