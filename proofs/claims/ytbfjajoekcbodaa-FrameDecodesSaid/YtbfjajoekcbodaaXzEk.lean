/- The reference's elements of bytes; the law of decoding. -/
import Derived.Test.YtbfjajoekcbodaaXzEj
import Derived.Test.YtbfjajoekcbodaaXzEr
set_option linter.unusedVariables false
set_option linter.unusedSimpArgs false
set_option maxRecDepth 20000
namespace Go.X
open Go Go.RowKit Go.Proofs
namespace F54
theorem ok {H : Heap} {p : Nat} {xs : List Int} {e : Int} {Q : Nat → Prop} (h : RFm Q H p xs e) (n : Int) : ∃ a' k' H', Ce 54 [.pointer (some ⟨p, 0, none⟩), .int .i64 n] H = some (.slice a' (rawS xs e n).1.length k', H') ∧ OwnI .u8 H.next H' a' (rawS xs e n).1.length k' (rawS xs e n).1 ∧ RFm Q H' p (rawS xs e n).2.1 (rawS xs e n).2.2 ∧ Chg (fun b => b = p) H H' := by
  obtain ⟨a, m, k, r, hQ⟩ := h
  have hl := r.s.ln
  have hsm := r.sm
  have em : imax 0 n = max 0 n := by unfold imax; split <;> omega
  have fail : ∃ a' k' H', L0 p 0 (max 0 n) true H (.slice a' 0 k', H') ∧ OwnI .u8 H.next H' a' 0 k' [] ∧ RFm Q H' p [] 2 ∧ Chg (fun b => b = p) H H' := by
    have s1 := rstc' r.row (i := 1) (by simp) (.int .i64 2)
    generalize e1 : H.set p (.row ([.slice a m k, .int .i64 e].set 1 (.int .i64 2)) true) = H1 at s1
    have g1 : H1.get p = .row [.slice a m k, .int .i64 2] true := by rw [← e1]; simp
    have n1 : H1.next = H.next := by rw [← e1]; simp
    have c1 : Chg (fun b => b = p) H H1 := by rw [← e1]; exact Chg.set (S := fun b => b = p) _ rfl
    have s2 := rstc' g1 (i := 0) (by simp) (.slice none 0 0)
    generalize e2 : H1.set p (.row ([.slice a m k, .int .i64 2].set 0 (.slice none 0 0)) true) = H2 at s2
    have g2 : H2.get p = .row [.slice none 0 0, .int .i64 2] true := by rw [← e2]; simp
    have n2 : H2.next = H1.next := by rw [← e2]; simp
    have c2 : Chg (fun b => b = p) H1 H2 := by rw [← e2]; exact Chg.set (S := fun b => b = p) _ rfl
    refine ⟨none, 0, H2, L0_step ?_, OwnI.nil, ⟨none, 0, 0, ⟨g2, by have := r.lt; omega, Ints.nil, In1.none, by omega⟩, fun b hb => absurd hb In1.none⟩, c1.trans c2 fun _ _ h => h⟩
    rw [if_pos rfl]
    exact ⟨_, s1, _, s2, rfl⟩
  unfold rawS
  by_cases he : e = 0
  · by_cases hn : (xs.length : Int) < max 0 n
    · rw [if_pos (.inr hn)]
      obtain ⟨a', k', H', z, o, r', c⟩ := fail
      refine ⟨a', k', H', call ⟨p, 0, rfl, _, rldc' r.row 1, ?_⟩, o, r', c⟩
      rw [if_pos he]
      refine ⟨_, _, _, rldc' r.row 0, ?_⟩
      rw [em, decide_eq_true (by omega)]
      exact z
    · rw [if_neg (by omega)]
      have e1 : max 0 n = ((n.toNat : Nat) : Int) := by omega
      have hle : n.toNat ≤ m := by omega
      obtain ⟨a1, k1, p1, s1⟩ := r.s.part none (some ((n.toNat : Nat) : Int)) 0 n.toNat (.inl ⟨rfl, rfl⟩) (.inr rfl) (by omega) hle
      simp only [List.drop_zero, Nat.sub_zero] at p1 s1
      obtain ⟨a2, k2, H2, c2, o2, kp2⟩ := OwnI.app (K := .u8) (base := H.next) 1 OwnI.nil s1 (Nat.le_refl _) (by omega) (by omega)
      simp only [Nat.zero_add, List.nil_append] at c2 o2
      have row2 : H2.get p = .row [.slice a m k, .int .i64 e] true := by rw [kp2.get _ r.lt]; exact r.row
      obtain ⟨a3, k3, p3, s3⟩ := Ints.part (show Ints .u8 H2 a m k xs from r.s.keep kp2) (some ((n.toNat : Nat) : Int)) none n.toNat m (.inr rfl) (.inl ⟨rfl, rfl⟩) hle (Nat.le_refl _)
      have s3' : Ints .u8 H2 a3 (m - n.toNat) k3 (xs.drop n.toNat) := by
        rw [List.take_of_length_le (by simp; omega)] at s3; exact s3
      have ha3 : ∀ b, In1 a3 b → In1 a b := psl_sub p3
      have ap3 : ¬In1 a3 p := fun c => r.ap (ha3 p c)
      have lt := r.lt
      have s4 := rstc' row2 (i := 0) (by simp) (.slice a3 (m - n.toNat) k3)
      generalize e4 : H2.set p (.row ([.slice a m k, .int .i64 e].set 0 (.slice a3 (m - n.toNat) k3)) true) = H4 at s4
      have g4 : H4.get p = .row [.slice a3 (m - n.toNat) k3, .int .i64 e] true := by rw [← e4]; simp
      have n4 : H4.next = H2.next := by rw [← e4]; simp
      have cs : Chg (fun b => b = p) H2 H4 := by rw [← e4]; exact Chg.set (S := fun b => b = p) _ rfl
      have nn := kp2.next
      have lx : (xs.take n.toNat).length = n.toNat := by simp; omega
      rw [lx]
      refine ⟨a2, k2, H4, call ⟨p, 0, rfl, _, rldc' r.row 1, ?_⟩, ?_, ⟨a3, m - n.toNat, k3, ?_, fun b hb => hQ b (ha3 b hb)⟩, kp2.chg0.trans cs fun _ _ h => h⟩
      · rw [if_pos he]
        refine ⟨_, _, _, rldc' r.row 0, ?_⟩
        rw [em, e1, decide_eq_false (by omega)]
        refine L0_step ?_
        rw [if_neg (by simp)]
        exact ⟨_, _, _, rldc' r.row 0, _, _, _, p1, _, _, _, _, c2, _, _, _, rldc' row2 0, _, _, _, p3, H4, s4, rfl⟩
      · exact o2.chg cs fun b hb hbp => by have := (o2.lt hb).1; have hbp : b = p := hbp; omega
      · exact ⟨g4, by omega, s3'.chg cs fun b hb hbp => ap3 ((show b = p from hbp) ▸ hb), ap3, by omega⟩
  · rw [if_pos (.inl he)]
    obtain ⟨a', k', H', z, o, r', c⟩ := fail
    refine ⟨a', k', H', call ⟨p, 0, rfl, _, rldc' r.row 1, ?_⟩, o, r', c⟩
    rw [if_neg he, em]
    exact z
end F54
namespace F55
theorem l0 {H : Heap} {a : Option Addr} {n k : Nat} {xs : List Int} (hs : Ints .u8 H a n k xs) (hb : IsB xs) (hn : n ≤ 1099511627776) : ∀ (rest : List Int) (j : Nat), xs.drop j = rest → j + rest.length = n → L0 (beV (xs.take j)) a n k (n : Int) (j : Int) H (.int .u64 (beV xs), H) := by
  intro rest
  induction rest with
  | nil =>
    intro j hd hj
    simp only [List.length_nil] at hj
    have hl := hs.ln
    rw [List.take_of_length_le (by omega)]
    refine L0_step ?_
    rw [if_neg (by omega)]
  | cons x rest ih =>
    intro j hd hj
    simp only [List.length_cons] at hj
    have hx := drop_get hd
    obtain ⟨b, o, rfl⟩ := hs.at (by omega)
    have z := ih (j + 1) (drop_next hd) (by omega)
    refine L0_step ?_
    rw [if_pos (by omega)]
    refine ⟨b, o, rfl, by omega, by omega, x, Ints.get hs hx, ?_⟩
    rw [beV_snoc (hb.get hx), i64 (by omega) (by omega), show xs.take j ++ [x] = xs.take (j + 1) by rw [List.take_add_one, hx]; rfl]
    exact_mod_cast z
theorem ok {H : Heap} {p : Nat} {xs : List Int} {e : Int} {Q : Nat → Prop} (h : RFm Q H p xs e) (hb : IsB xs) (n : Int) : ∃ H', Ce 55 [.pointer (some ⟨p, 0, none⟩), .int .i64 n] H = some (.int .u64 (beV (rawS xs e n).1), H') ∧ RFm Q H' p (rawS xs e n).2.1 (rawS xs e n).2.2 ∧ Chg (fun b => b = p) H H' := by
  obtain ⟨a', k', H', c, o, r, g⟩ := F54.ok h n
  have hsm : (rawS xs e n).1.length ≤ 1099511627776 := by
    have := rawS_len xs e n
    obtain ⟨_, m, _, r, _⟩ := h
    have := r.sm; have := r.s.ln; omega
  have z := l0 o.sl (rawS_isB hb e n).1 hsm (rawS xs e n).1 0 rfl (by omega)
  rw [List.take_zero, beV_nil] at z
  exact ⟨H', call ⟨_, _, _, _, c, z⟩, r, g⟩
end F55
namespace F53
theorem ok {H : Heap} {p : Nat} {xs : List Int} {e : Int} {Q : Nat → Prop} (h : RFm Q H p xs e) (hb : IsB xs) : ∃ H', Ce 53 [.pointer (some ⟨p, 0, none⟩)] H = some (.int .i64 ((rawS xs e 1).1.getD 0 0), H') ∧ RFm Q H' p (rawS xs e 1).2.1 (rawS xs e 1).2.2 ∧ Chg (fun b => b = p) H H' := by
  obtain ⟨H', c, r, g⟩ := F55.ok h hb 1
  refine ⟨H', call ⟨_, _, c, ?_⟩, r, g⟩
  have hv : beV (rawS xs e 1).1 = (rawS xs e 1).1.getD 0 0 := by
    have hl : (rawS xs e 1).1 = [] ∨ ∃ x, (rawS xs e 1).1 = [x] ∧ 0 ≤ x ∧ x < 256 := by
      have hi := (rawS_isB hb e 1).1
      unfold rawS at hi ⊢
      split
      · exact .inl rfl
      · rename_i hc
        rw [if_neg hc] at hi
        cases xs with
        | nil => exact .inl rfl
        | cons x xs => exact .inr ⟨x, by simp, hi x (by simp)⟩
    rcases hl with hl | ⟨x, hl, hx⟩
    · rw [hl]; exact beV_nil
    · rw [hl, beV_one hx]; rfl
  have hr := (rawS_isB hb e 1).1
  have : 0 ≤ (rawS xs e 1).1.getD 0 0 ∧ (rawS xs e 1).1.getD 0 0 < 256 := by
    cases hh : (rawS xs e 1).1 with
    | nil => simp
    | cons x l => rw [hh] at hr; exact hr x (by simp)
  rw [hv, i64 (by omega) (by omega)]
end F53
namespace F56
theorem ok {H : Heap} {p : Nat} {xs : List Int} {e : Int} {Q : Nat → Prop} (h : RFm Q H p xs e) : Ce 56 [.pointer (some ⟨p, 0, none⟩)] H = some (.int .i64 (if e = 0 ∧ xs ≠ [] then 3 else e), H) := by
  obtain ⟨a, n, k, r, _⟩ := h
  have hl := r.s.ln
  refine call ⟨p, 0, rfl, _, rldc' r.row 1, ?_⟩
  by_cases he : e = 0
  · rw [if_pos he]
    refine ⟨_, _, _, rldc' r.row 0, L0_step ?_⟩
    by_cases hx : xs = []
    · subst hx
      rw [if_neg (by simp at hl ⊢; omega), if_neg (by simp)]
      exact ⟨_, rldc' r.row 1, rfl⟩
    · have := List.length_pos_iff.2 hx
      rw [if_pos (by simp; omega), if_pos ⟨he, hx⟩]
  · rw [if_neg he, if_neg fun c => he c.1]
    refine L0_step ?_
    rw [if_neg (by simp)]
    exact ⟨_, rldc' r.row 1, rfl⟩
end F56
section
variable {Q : Nat → Prop} {H : Heap} {p : Nat} {bs : List Int} {j : Nat}
abbrev RS (Q : Nat → Prop) (H : Heap) (p : Nat) (bs : List Int) (j : Nat) : Prop := RFm Q H p (rfX bs j) (rfE bs j)
theorem RS.raw (h : RS Q H p bs j) (w : Nat) : ∃ a' k' H', Ce 54 [.pointer (some ⟨p, 0, none⟩), .int .i64 (w : Int)] H = some (.slice a' (rfT bs j w).length k', H') ∧ OwnI .u8 H.next H' a' (rfT bs j w).length k' (rfT bs j w) ∧ RS Q H' p bs (j + w) ∧ Chg (fun b => b = p) H H' := by
  have := F54.ok h (w : Int)
  rw [rawS_st] at this
  exact this
theorem RS.num (hb : IsB bs) (h : RS Q H p bs j) (w : Nat) : ∃ H', Ce 55 [.pointer (some ⟨p, 0, none⟩), .int .i64 (w : Int)] H = some (.int .u64 (beV (rfT bs j w)), H') ∧ RS Q H' p bs (j + w) ∧ Chg (fun b => b = p) H H' := by
  have := F55.ok h (rfX_isB hb j) (w : Int)
  rw [rawS_st] at this
  exact this
theorem RS.u8 (hb : IsB bs) (h : RS Q H p bs j) : ∃ H', Ce 53 [.pointer (some ⟨p, 0, none⟩)] H = some (.int .i64 (bs.getD j 0), H') ∧ RS Q H' p bs (j + 1) ∧ Chg (fun b => b = p) H H' := by
  have := F53.ok h (rfX_isB hb j)
  rw [show (1 : Int) = ((1 : Nat) : Int) from rfl, rawS_st, rfT_one] at this
  exact this
theorem RS.end_ (h : RS Q H p bs j) : Ce 56 [.pointer (some ⟨p, 0, none⟩)] H = some (.int .i64 (if bs.length < j then 2 else if j < bs.length then 3 else 0), H) := by
  have := F56.ok h
  rw [rfEnd] at this
  exact this
end
namespace F25
theorem l0 {G : Heap} {a b : Option Addr} {n ka kb : Nat} {l m : List Ie} (hs : Ies G a n ka l) (hm : Ies G b n kb m) (hl : ∀ e ∈ l, IeOk G e) (hml : ∀ e ∈ m, IeOk G e) (hn : n ≤ 3000000000000) : ∀ (rl rm : List Ie) (j : Nat) (H : Heap), l.drop j = rl → m.drop j = rm → j + rl.length = n → Keep G.next G H →
    ∃ H', L0 a n ka b n kb (n : Int) (j : Int) H (.bool (decide (rl.map Ie.v = rm.map Ie.v)), H') ∧ Keep G.next G H' := by
  have hc := hs.cnt Ie.z (by decide)
  have hcm := hm.cnt Ie.z (by decide)
  intro rl
  induction rl with
  | nil =>
    intro rm j H hd hdm hj hk
    simp only [List.length_nil] at hj
    have : rm = [] := by rw [← hdm, List.drop_eq_nil_of_le (by omega)]
    subst this
    refine ⟨H, L0_step ?_, hk⟩
    rw [if_neg (by omega)]
    rfl
  | cons e rl ih =>
    intro rm j H hd hdm hj hk
    simp only [List.length_cons] at hj
    have hlr : rm.length = rl.length + 1 := by
      have := congrArg List.length hdm
      simp at this; omega
    cases rm with
    | nil => simp at hlr
    | cons f rm =>
      have hx := drop_get hd
      have hy := drop_get hdm
      obtain ⟨b1, o1, rfl⟩ := hs.at (by omega)
      obtain ⟨b2, o2, rfl⟩ := hm.at (by omega)
      have ra := (hs.keep hk).recs Ie.z hx
      have rb := (hm.keep hk).recs Ie.z hy
      obtain ⟨H1, c1, k1⟩ := F19.ok ((hl e (List.mem_of_getElem? hx)).keep hk) ((hml f (List.mem_of_getElem? hy)).keep hk)
      have hk1 := hk.trans (k1.weak hk.next)
      by_cases h1 : e.v = f.v
      · obtain ⟨H', z, k'⟩ := ih rm (j + 1) H1 (drop_next hd) (drop_next hdm) (by omega) hk1
        refine ⟨H', L0_step ?_, k'⟩
        rw [if_pos (by omega)]
        refine ⟨b1, o1, rfl, by omega, by omega, _, _, _, _, _, _, _, ra, b2, o2, rfl, by omega, by omega, _, _, _, _, _, _, _, rb, _, _, c1, ?_⟩
        rw [if_pos (by simpa using h1), i64 (by omega) (by omega)]
        have : decide ((e :: rl).map Ie.v = (f :: rm).map Ie.v) = decide (rl.map Ie.v = rm.map Ie.v) := by simp [h1]
        rw [this]
        exact_mod_cast z
      · refine ⟨H1, L0_step ?_, hk1⟩
        rw [if_pos (by omega)]
        refine ⟨b1, o1, rfl, by omega, by omega, _, _, _, _, _, _, _, ra, b2, o2, rfl, by omega, by omega, _, _, _, _, _, _, _, rb, _, _, c1, ?_⟩
        rw [if_neg (by simpa using h1)]
        have : decide ((e :: rl).map Ie.v = (f :: rm).map Ie.v) = false := by simp [h1]
        rw [this]
theorem ok {H : Heap} {a b : Option Addr} {n nb ka kb : Nat} {l m : List Ie} (hs : Ies H a n ka l) (hm : Ies H b nb kb m) (hl : ∀ e ∈ l, IeOk H e) (hml : ∀ e ∈ m, IeOk H e) (hn : n ≤ 3000000000000) : ∃ H', Ce 25 [.slice a n ka, .slice b nb kb] H = some (.bool (decide (l.map Ie.v = m.map Ie.v)), H') ∧ Keep H.next H H' := by
  have hc := hs.cnt Ie.z (by decide)
  have hcm := hm.cnt Ie.z (by decide)
  by_cases h : n = nb
  · subst h
    obtain ⟨H', z, k'⟩ := l0 hs hm hl hml hn l m 0 H rfl rfl (by omega) (Keep.refl _ _)
    refine ⟨H', call ?_, k'⟩
    rw [if_pos rfl]
    exact z
  · refine ⟨H, call ?_, Keep.refl _ _⟩
    rw [if_neg (by omega), decide_eq_false fun c => h (by have := congrArg List.length c; simp at this; omega)]
end F25
namespace F24
theorem l5 {G : Heap} {kd : Int} {s : Option Addr} {sn sk q p k6 m i : Nat} {a6 : Option Addr} {n6 : Nat} {xs : List Int} (hs : Ints .u8 G s sn sk xs) (hb : IsB xs) (hsn : sn ≤ 1000000) (hq : q < G.next) (hsq : ∀ b, In1 s b → b ≠ q) : ∀ (rest : List Int) (j : Nat) (a : Option Addr) (k : Nat) (H : Heap), xs.drop j = rest → j + rest.length = sn → H.get q = .row (Ie.cells ⟨⟨kd, 0, 0, 0, xs.take j⟩, a, j, k⟩) true → OwnI .i64 G.next H a j k (xs.take j) → Chg (fun b => b = q) G H →
    ∃ (a' : Option Addr) (k' : Nat) (H' : Heap), H'.get q = .row (Ie.cells ⟨⟨kd, 0, 0, 0, xs⟩, a', sn, k'⟩) true ∧ OwnI .i64 G.next H' a' sn k' xs ∧ Chg (fun b => b = q) G H' ∧ ∀ r, L4 p 0 a6 n6 k6 q 0 (m : Int) (i : Int) H' r → L5 p 0 a6 n6 k6 q 0 (m : Int) (i : Int) s sn sk (sn : Int) (j : Int) H r := by
  have hln := hs.ln
  intro rest
  induction rest with
  | nil =>
    intro j a k H hd hj g ho hk
    simp only [List.length_nil] at hj
    have : j = sn := by omega
    subst this
    rw [List.take_of_length_le (by omega)] at ho g
    refine ⟨a, k, H, g, ho, hk, fun r z => L5_step ?_⟩
    rw [if_neg (by omega)]
    exact z
  | cons x rest ih =>
    intro j a k H hd hj g ho hk
    simp only [List.length_cons] at hj
    have hx := drop_get hd
    have s1 := hs.chg hk fun b hb h => hsq b hb h
    obtain ⟨b, o, rfl⟩ := hs.at (by omega)
    obtain ⟨H1, e1, m1, g1, k1⟩ := one H [.int .i64 (IntKind.wrap .i64 x)]
    have hxb := hb.get hx
    have w : IntKind.wrap .i64 x = x := i64 (by omega) (by omega)
    have g1' := g1
    rw [w] at g1'
    have sl1 : Ints .i64 H1 (some ⟨H.next, 0, none⟩) 1 (UNK 1) [x] := Sl.ofRow g1' (by omega)
    have nk := hk.next
    obtain ⟨a2, k2, H2, c2, o2, kp2⟩ := OwnI.app 8 (ho.keep k1) sl1 (by omega) (by omega) (by omega)
    have et : xs.take j ++ [x] = xs.take (j + 1) := by rw [List.take_add_one, hx]; rfl
    rw [et] at o2
    have n2 := kp2.next
    have g2 : H2.get q = .row (Ie.cells ⟨⟨kd, 0, 0, 0, xs.take j⟩, a, j, k⟩) true := by rw [kp2.get q hq, k1.get q (by omega)]; exact g
    obtain ⟨H3, s3, g3, c3, n3⟩ := rowSet (i := 4) (.slice a2 (j + 1) k2) g2 (by omega) (by simp)
    have kG2 : Chg (fun b => b = q) G H2 := ⟨by omega, fun b hb hne => by rw [kp2.get b hb, k1.get b (by omega), hk.get b hb hne]⟩
    obtain ⟨a', k', H', gg, oo, kk, z⟩ := ih (j + 1) a2 k2 H3 (drop_next hd) (by omega) g3 (o2.chg c3 fun b hb h => by have := (o2.lt hb).1; have h : b = q := h; omega) (kG2.trans c3 fun _ _ h => h)
    refine ⟨a', k', H', gg, oo, kk, fun r hr => L5_step ?_⟩
    rw [if_pos (by omega)]
    refine ⟨b, o, rfl, by omega, by omega, x, Ints.get s1 hx, _, _, _, rldc' g 4, H1, e1, _, _, _, _, c2, H3, s3, ?_⟩
    rw [i64 (by omega) (by omega)]
    exact_mod_cast z r hr
theorem kd_dec {bs : List Int} {j : Nat} (h : 1 ≤ bs.getD j 0) : j + 1 ≤ bs.length := by
  apply Decidable.byContradiction
  intro c
  rw [List.getD, List.getElem?_eq_none (by omega)] at h
  simp at h
theorem l1 {H0 G : Heap} {p : Nat} {bs : List Int} (hb : IsB bs) (hbl : bs.length ≤ 1000000) (kG : Keep H0.next H0 G) (hp0 : H0.next ≤ p) (hp : p < G.next) {m : Nat} (hm : m ≤ 255) : ∀ (d i j : Nat) (acc : List Ie) (a : Option Addr) (k : Nat) (H : Heap), i + d = m → acc.length = i → RS (fun b => b < G.next ∧ b ≠ p) H p bs j → DI G H p a i k acc →
    F23.Post H0 (decGo bs d j (acc.map Ie.v)) (L1 p 0 a i k (m : Int) (i : Int) H) := by
  intro d
  induction d with
  | zero =>
    intro i j acc a k H hi hl h hd
    have kH : Keep H0.next H0 H := kG.trans (hd.c.keep kG.next fun b _ hb => by have hb : b = p := hb; omega)
    have c6 := h.end_
    unfold decGo
    by_cases b1 : bs.length < j
    · rw [if_pos b1] at c6 ⊢
      refine F23.Post.bad kH (L1_step ?_)
      rw [if_neg (by omega)]
      refine ⟨_, _, c6, ?_⟩
      rw [if_neg (by decide)]
    rw [if_neg b1] at c6 ⊢
    by_cases b2 : j < bs.length
    · rw [if_pos b2] at c6 ⊢
      refine F23.Post.bad kH (L1_step ?_)
      rw [if_neg (by omega)]
      refine ⟨_, _, c6, ?_⟩
      rw [if_neg (by decide)]
    rw [if_neg b2] at c6 ⊢
    subst hl
    refine ⟨acc, a, k, H, L1_step ?_, rfl, hd.o.sl, hd.ok, kH, fun b hb => by have := (hd.o.lt hb).1; have := kG.next; omega, fun e he b hb => by have := (hd.sp e he b hb).1; have := kG.next; omega⟩
    rw [if_neg (by omega)]
    refine ⟨_, _, c6, ?_⟩
    rw [if_pos rfl]
  | succ d ih =>
    intro i j acc a k H hi hl h hd
    have kH : Keep H0.next H0 H := kG.trans (hd.c.keep kG.next fun b _ hb => by have hb : b = p := hb; omega)
    have nG := hd.c.next
    obtain ⟨H1, c1, h1, f1⟩ := RS.u8 hb h
    have n1 := f1.next
    obtain ⟨H3, s3, g3, k3, n3⟩ := fill H1 ie0.cells (Ie.cells ⟨⟨bs.getD j 0, 0, 0, 0, []⟩, none, 0, 0⟩) rfl
    have h3 := h1.new k3
    have e3 := h3.err
    have f3 : Chg (fun b => b = p) H H3 := f1.trans (k3.chg0 (S := fun b => b = p)) fun _ _ h => h
    have kb : ∀ {X}, Chg (fun b => b = p) H X → Keep H0.next H0 X := fun f => kH.trans (f.keep kH.next fun b _ hb => by have hb : b = p := hb; omega)
    obtain ⟨_, y0, y1⟩ := stV_one hb j
    obtain ⟨_, z0, z1⟩ := stV_one hb (j + 1)
    -- the ways out
    have out : ∀ {er : Int} {H'}, Chg (fun b => b = p) H H' → (∀ r, r = (.tuple #[.slice none 0 0, .int .i64 er], H') → L1 p 0 a i k (m : Int) (i : Int) H r) → decI bs j = .error er → F23.Post H0 (decGo bs (d + 1) j (acc.map Ie.v)) (L1 p 0 a i k (m : Int) (i : Int) H) := by
      intro er H' f z hdec
      unfold decGo
      rw [hdec]
      exact F23.Post.bad (kb f) (z _ rfl)
    have start : ∀ (bad : Bool) (r : Value × Heap), (bad = true ↔ (j + 1 ≤ bs.length ∧ ¬(1 ≤ bs.getD j 0 ∧ bs.getD j 0 ≤ 4))) → L2 p 0 a i k H1.next 0 (m : Int) (i : Int) bad H3 r → L1 p 0 a i k (m : Int) (i : Int) H r := by
      intro bad r hbad z
      refine L1_step ?_
      rw [if_pos (by omega)]
      refine ⟨_, _, c1, _, rfl, H3, s3, _, e3, ?_⟩
      unfold rfE
      by_cases b1 : j + 1 ≤ bs.length
      · rw [if_pos b1, if_pos rfl]
        refine ⟨_, rldc' g3 0, ?_⟩
        by_cases b2 : bs.getD j 0 < 1
        · rw [if_pos b2]
          have : bad = true := hbad.2 ⟨b1, by omega⟩
          rw [this] at z; exact z
        · rw [if_neg b2]
          refine ⟨_, rldc' g3 0, ?_⟩
          have : bad = decide (bs.getD j 0 > 4) := by
            cases bad
            · exact (decide_eq_false fun c => by have := hbad.2 ⟨b1, by omega⟩; cases this).symm
            · have := (hbad.1 rfl).2
              exact (decide_eq_true (by omega)).symm
          rw [this] at z; exact z
      · rw [if_neg b1, if_neg (by decide)]
        have : bad = false := by
          cases bad
          · rfl
          · exact absurd (hbad.1 rfl).1 b1
        rw [this] at z; exact z
    by_cases b2 : j + 1 ≤ bs.length ∧ ¬(1 ≤ bs.getD j 0 ∧ bs.getD j 0 ≤ 4)
    · refine out (er := 3) f3 (fun r hr => start true r (by simpa using b2) (L2_step ?_)) ?_
      · rw [if_pos rfl]; exact hr
      · unfold decI; rw [if_neg (by omega), if_pos b2.2]
    obtain ⟨H4, c4, h4, f4⟩ := RS.u8 hb h3
    have e4 := h4.err
    have n4 := f4.next
    have g4 : H4.get H1.next = .row (Ie.cells ⟨⟨bs.getD j 0, 0, 0, 0, []⟩, none, 0, 0⟩) true := by rw [f4.get _ (by omega) (by omega)]; exact g3
    have f04 : Chg (fun b => b = p) H H4 := f3.trans f4 fun _ _ h => h
    have start2 : ∀ (bad : Bool) (r : Value × Heap), (bad = true ↔ (j + 2 ≤ bs.length ∧ ¬rightP (bs.getD j 0) (bs.getD (j + 1) 0))) → L3 p 0 a i k H1.next 0 (bs.getD (j + 1) 0) (m : Int) (i : Int) bad H4 r → L1 p 0 a i k (m : Int) (i : Int) H r := by
      intro bad r hbad z
      refine start false r (by simpa using b2) (L2_step ?_)
      rw [if_neg (by simp)]
      refine ⟨_, _, c4, _, e4, ?_⟩
      unfold rfE
      by_cases b3 : j + 1 + 1 ≤ bs.length
      · rw [if_pos b3, if_pos rfl]
        have hk : 1 ≤ bs.getD j 0 ∧ bs.getD j 0 ≤ 4 := Decidable.byContradiction fun c => b2 ⟨by omega, c⟩
        have hb' : bad = decide (¬rightP (bs.getD j 0) (bs.getD (j + 1) 0)) := by
          cases bad
          · exact (decide_eq_false fun c => by have := hbad.2 ⟨by omega, c⟩; cases this).symm
          · exact (decide_eq_true (hbad.1 rfl).2).symm
        subst hb'
        clear hbad
        refine ⟨_, rldc' g4 0, ?_⟩
        unfold rightP at z
        by_cases k1 : bs.getD j 0 = 1
        · rw [if_pos k1]
          simp only [k1, if_true] at z
          by_cases n6 : bs.getD (j + 1) 0 = 6
          · rw [if_pos n6]
            refine ⟨_, rldc' g4 0, ?_⟩
            rw [if_neg (show ¬bs.getD j 0 = 2 by omega), decide_eq_false (by omega)]
            rw [decide_eq_false (by omega)] at z
            exact z
          · rw [if_neg n6]
            rw [decide_eq_true n6] at z
            exact z
        · rw [if_neg k1]
          refine ⟨_, rldc' g4 0, ?_⟩
          by_cases k2 : bs.getD j 0 = 2
          · rw [if_pos k2]
            rw [show decide (¬if bs.getD j 0 = 1 then bs.getD (j + 1) 0 = 6 else if bs.getD j 0 = 2 then bs.getD (j + 1) 0 = 2 else bs.getD (j + 1) 0 ≤ 16) = decide (¬bs.getD (j + 1) 0 = 2) from decide_eq_decide.2 (by rw [if_neg k1, if_pos k2])] at z
            by_cases n2 : bs.getD (j + 1) 0 = 2
            · rw [if_pos n2, decide_eq_false (by omega)]
              rw [decide_eq_false (by omega)] at z
              exact z
            · rw [if_neg n2]
              rw [decide_eq_true n2] at z
              exact z
          · rw [if_neg k2]
            rw [show decide (¬if bs.getD j 0 = 1 then bs.getD (j + 1) 0 = 6 else if bs.getD j 0 = 2 then bs.getD (j + 1) 0 = 2 else bs.getD (j + 1) 0 ≤ 16) = decide (bs.getD (j + 1) 0 > 16) from decide_eq_decide.2 (by rw [if_neg k1, if_neg k2]; omega)] at z
            exact z
      · rw [if_neg b3, if_neg (by decide)]
        have : bad = false := by
          cases bad
          · rfl
          · exact absurd (hbad.1 rfl).1 (by omega)
        rw [this] at z; exact z
    by_cases b4 : j + 2 ≤ bs.length ∧ ¬rightP (bs.getD j 0) (bs.getD (j + 1) 0)
    · refine out (er := 3) f04 (fun r hr => start2 true r (by simpa using b4) (L3_step ?_)) ?_
      · rw [if_pos rfl]; exact hr
      · unfold decI
        rw [if_neg (by omega), if_neg (fun c => b2 ⟨by omega, c⟩), if_neg (by omega), if_pos b4.2]
    have ez : (((bs.getD (j + 1) 0).toNat : Nat) : Int) = bs.getD (j + 1) 0 := by omega
    obtain ⟨a5, k5, H5, c5, o5, h5, f5⟩ := h4.raw (bs.getD (j + 1) 0).toNat
    rw [ez] at c5
    have e5 := h5.err
    have n5 := f5.next
    have g5 : H5.get H1.next = .row (Ie.cells ⟨⟨bs.getD j 0, 0, 0, 0, []⟩, none, 0, 0⟩) true := by rw [f5.get _ (by omega) (by omega)]; exact g4
    have f05 : Chg (fun b => b = p) H H5 := f04.trans f5 fun _ _ h => h
    rw [show j + 1 + 1 + (bs.getD (j + 1) 0).toNat = j + 2 + (bs.getD (j + 1) 0).toNat by omega] at h5 e5
    rw [show j + 1 + 1 = j + 2 by omega] at c5 o5
    by_cases b5 : bs.length < j + 2 + (bs.getD (j + 1) 0).toNat
    · refine out (er := 2) f05 (fun r hr => start2 false r (by simpa using b4) (L3_step ?_)) ?_
      · rw [if_neg (by simp)]
        refine ⟨_, _, _, _, c5, _, e5, ?_⟩
        unfold rfE
        rw [if_neg (by omega)]
        exact hr
      · unfold decI
        by_cases q1 : bs.length < j + 1
        · rw [if_pos q1]
        rw [if_neg q1, if_neg (fun c => b2 ⟨by omega, c⟩)]
        by_cases q2 : bs.length < j + 2
        · rw [if_pos q2]
        rw [if_neg q2, if_neg (fun c => b4 ⟨by omega, c⟩), if_pos b5]
    -- the element is whole
    have hk : 1 ≤ bs.getD j 0 ∧ bs.getD j 0 ≤ 4 := Decidable.byContradiction fun c => b2 ⟨by omega, c⟩
    have hr : rightP (bs.getD j 0) (bs.getD (j + 1) 0) := Decidable.byContradiction fun c => b4 ⟨by omega, c⟩
    have hdec : decI bs j = .ok (mkV bs (bs.getD j 0) (bs.getD (j + 1) 0).toNat (j + 2), j + 2 + (bs.getD (j + 1) 0).toNat) := by
      unfold decI
      rw [if_neg (by omega), if_neg (fun c => c hk), if_neg (by omega), if_neg (fun c => c hr), if_neg b5]
    unfold decGo
    rw [hdec]
    simp only
    generalize hn : (bs.getD (j + 1) 0).toNat = n at *
    have fin : ∀ (e : Ie) (H' : Heap), e.v = mkV bs (bs.getD j 0) n (j + 2) → H'.get H1.next = .row e.cells true → Chg (fun b => b = p) H H' → IeOk H' e → (∀ b, In1 e.a b → H.next ≤ b) → RS (fun b => b < G.next ∧ b ≠ p) H' p bs (j + 2 + n) → F23.Post H0 (decGo bs d (j + 2 + n) (acc.map Ie.v ++ [mkV bs (bs.getD j 0) n (j + 2)])) (L4 p 0 a i k H1.next 0 (m : Int) (i : Int) H') := by
      intro e H' hv g f he hs hrd
      obtain ⟨a', k', H6, c6, hd6, g6⟩ := hd.app hp f he hs (by omega)
      have h6 : RS (fun b => b < G.next ∧ b ≠ p) H6 p bs (j + 2 + n) := hrd.chg g6 (by omega) fun b hb hq => by have := hb.1; omega
      obtain ⟨l, al, kl, Hl, z, hz⟩ := ih (i + 1) (j + 2 + n) (acc ++ [e]) a' k' H6 (by omega) (by simp [hl]) h6 hd6
      rw [List.map_append, List.map_cons, List.map_nil, hv] at z hz
      refine ⟨l, al, kl, Hl, L4_step ⟨_, _, _, _, _, _, _, rldAll g, _, rfl, _, _, _, _, c6, ?_⟩, hz⟩
      rw [i64 (by omega) (by omega)]
      exact_mod_cast z
    have wrapUp : ∀ {q : List VE × Int} {L : Value × Heap → Prop}, F23.Post H0 q L → (∀ r, L r → L1 p 0 a i k (m : Int) (i : Int) H r) → F23.Post H0 q (L1 p 0 a i k (m : Int) (i : Int) H) := by
      rintro q L ⟨l, al, kl, Hl, z, hz⟩ hL
      exact ⟨l, al, kl, Hl, hL _ z, hz⟩
    have start3 : ∀ (r : Value × Heap), (∃ (H_2 : Heap), H_2 = H5.push (.row [.slice a5 (rfT bs (j + 2) n).length k5, .int .i64 0] true) ∧
    (∃ (t90 : Int), ldc H_2 H1.next 0 = some (.int .i64 t90) ∧
    (if t90 = 1 then
    (∃ (t108 : Int) (H_3 : Heap), Ce 55 [.pointer (some ⟨H5.next, 0, none⟩), .int .i64 5] H_2 = some (.int .u64 t108, H_3) ∧
    (∃ (H_4 : Heap), stc H_3 H1.next (0 + 1) [.int .i64 (IntKind.wrap .i64 t108)] = some H_4 ∧
    (∃ (t112 : Int) (H_5 : Heap), Ce 53 [.pointer (some ⟨H5.next, 0, none⟩)] H_4 = some (.int .i64 t112, H_5) ∧
    (∃ (H_6 : Heap), stc H_5 H1.next (0 + 2) [.int .i64 t112] = some H_6 ∧
    (L4 p 0 a i k H1.next 0 (m : Int) (i : Int) H_6 r)))))
    else
    (if t90 = 2 then
    (∃ (t117 : Int) (H_7 : Heap), Ce 55 [.pointer (some ⟨H5.next, 0, none⟩), .int .i64 2] H_2 = some (.int .u64 t117, H_7) ∧
    (∃ (H_8 : Heap), stc H_7 H1.next (0 + 3) [.int .i64 (IntKind.wrap .i64 (IntKind.wrap .i16 t117))] = some H_8 ∧
    (L4 p 0 a i k H1.next 0 (m : Int) (i : Int) H_8 r)))
    else
    (L5 p 0 a i k H1.next 0 (m : Int) (i : Int) a5 (rfT bs (j + 2) n).length k5 ((rfT bs (j + 2) n).length : Int) 0 H_2 r))))) → L1 p 0 a i k (m : Int) (i : Int) H r := by
      intro r z
      refine start2 false r (by simpa using b4) (L3_step ?_)
      rw [if_neg (by simp)]
      refine ⟨_, _, _, _, c5, _, e5, ?_⟩
      unfold rfE
      rw [if_pos (by omega)]
      exact z
    have hxs : rfT bs (j + 2) n = (bs.drop (j + 2)).take n := by unfold rfT; rw [if_pos (by omega)]
    have hxb : IsB (rfT bs (j + 2) n) := by rw [hxs]; exact fun x hx => hb x (List.mem_of_mem_drop (List.mem_of_mem_take hx))
    have hxl : (rfT bs (j + 2) n).length = n := by rw [hxs]; simp; omega
    have mk := RFm.mk1 (Q := fun b => H1.next < b ∧ b < H5.next) o5.sl (by omega) fun b hb => by have := o5.lt hb; omega
    have k6 : Keep H5.next H5 (H5.push (.row [.slice a5 (rfT bs (j + 2) n).length k5, .int .i64 0] true)) := Keep.push _ (Nat.le_refl _)
    generalize e6 : H5.push (.row [.slice a5 (rfT bs (j + 2) n).length k5, .int .i64 0] true) = H6 at mk k6 start3
    have n6 : H6.next = H5.next + 1 := by rw [← e6]; rfl
    have g6 : H6.get H1.next = .row (Ie.cells ⟨⟨bs.getD j 0, 0, 0, 0, []⟩, none, 0, 0⟩) true := by rw [k6.get _ (by omega)]; exact g5
    have mk' : RS (fun b => H1.next < b ∧ b < H5.next) H6 H5.next (rfT bs (j + 2) n) 0 := by
      unfold RS rfX rfE
      rw [if_pos (by omega), if_pos (by omega), List.drop_zero]
      exact mk
    have h6 := h5.new k6
    have n5' : H1.next < H5.next := by omega
    have base6 : ∀ b, b < H.next → b ≠ p → H6.get b = H.get b := fun b hb' hne => by rw [k6.get b (by omega), f05.get b hb' hne]
    -- steps that touch only the two rows of this turn
    have fromY : ∀ {X : Heap}, Chg (fun b => b = H5.next ∨ b = H1.next) H6 X → Chg (fun b => b = p) H X ∧ RS (fun b => b < G.next ∧ b ≠ p) X p bs (j + 2 + n) := fun {X} c => by
      have hpx := h6.lt
      exact ⟨⟨by have := c.next; omega, fun b hb' hne => by rw [c.get b (by omega) (by omega), base6 b hb' hne]⟩, h6.chg c (by omega) fun b hb' hq => by have := hb'.1; omega⟩
    by_cases q1 : bs.getD j 0 = 1
    · have n6' : n = 6 := by
        unfold rightP at hr; rw [if_pos q1] at hr; omega
      obtain ⟨H7, c7, h7, f7⟩ := RS.num hxb mk' 5
      have n7 := f7.next
      have ev : beV (rfT (rfT bs (j + 2) n) 0 5) = stV bs (j + 2) 5 := by
        unfold stV
        rw [if_pos (by omega), hxs]
        unfold rfT
        rw [if_pos (by simp; omega), List.drop_zero, List.take_take, show min 5 n = 5 by omega]
      rw [ev] at c7
      have g7 : H7.get H1.next = .row (Ie.cells ⟨⟨bs.getD j 0, 0, 0, 0, []⟩, none, 0, 0⟩) true := by rw [f7.get _ (by omega) (by omega)]; exact g6
      obtain ⟨H8, s8, g8, f8, n8⟩ := rowSet (i := 1) (.int .i64 (IntKind.wrap .i64 (stV bs (j + 2) 5))) g7 (by omega) (by simp)
      have h8 : RS (fun b => H1.next < b ∧ b < H5.next) H8 H5.next (rfT bs (j + 2) n) (0 + 5) := h7.chg f8 (by omega) fun b hb' hq => by have := hb'.1; omega
      obtain ⟨H9, c9, h9, f9⟩ := RS.u8 hxb h8
      have n9 := f9.next
      have eu : (rfT bs (j + 2) n).getD (0 + 5) 0 = bs.getD (j + 2 + 5) 0 := by
        rw [hxs, List.getD, List.getD, List.getElem?_take, if_pos (by omega), List.getElem?_drop]
      rw [eu] at c9
      have g9 : H9.get H1.next = .row ((Ie.cells ⟨⟨bs.getD j 0, 0, 0, 0, []⟩, none, 0, 0⟩).set 1 (.int .i64 (IntKind.wrap .i64 (stV bs (j + 2) 5)))) true := by rw [f9.get _ (by omega) (by omega)]; exact g8
      obtain ⟨H10, s10, g10, f10, n10⟩ := rowSet (i := 2) (.int .i64 (bs.getD (j + 2 + 5) 0)) g9 (by omega) (by simp)
      obtain ⟨fA, rA⟩ := fromY (X := H10) ⟨by omega, fun b hb' hne => by
        rw [f10.get b (by omega) (fun e => hne (.inr e)), f9.get b (by omega) (fun e => hne (.inl e)), f8.get b (by omega) (fun e => hne (.inr e)), f7.get b hb' (fun e => hne (.inl e))]⟩
      refine wrapUp (fin ⟨⟨bs.getD j 0, IntKind.wrap .i64 (stV bs (j + 2) 5), bs.getD (j + 2 + 5) 0, 0, []⟩, none, 0, 0⟩ H10 (by unfold mkV; rw [if_pos q1]) g10 fA ⟨Ints.nil, by show 0 ≤ _; omega⟩ (fun b hb' => absurd hb' In1.none) rA) fun r z => start3 r ?_
      refine ⟨_, rfl, _, rldc' g6 0, ?_⟩
      rw [if_pos q1]
      exact ⟨_, _, c7, H8, s8, _, _, c9, H10, s10, z⟩
    by_cases q2 : bs.getD j 0 = 2
    · have n2' : n = 2 := by
        unfold rightP at hr; rw [if_neg q1, if_pos q2] at hr; omega
      obtain ⟨H7, c7, h7, f7⟩ := RS.num hxb mk' 2
      have n7 := f7.next
      have ev : beV (rfT (rfT bs (j + 2) n) 0 2) = stV bs (j + 2) 2 := by
        unfold stV
        rw [if_pos (by omega), hxs]
        unfold rfT
        rw [if_pos (by simp; omega), List.drop_zero, List.take_take, show min 2 n = 2 by omega]
      rw [ev] at c7
      have g7 : H7.get H1.next = .row (Ie.cells ⟨⟨bs.getD j 0, 0, 0, 0, []⟩, none, 0, 0⟩) true := by rw [f7.get _ (by omega) (by omega)]; exact g6
      obtain ⟨H8, s8, g8, f8, n8⟩ := rowSet (i := 3) (.int .i64 (IntKind.wrap .i64 (IntKind.wrap .i16 (stV bs (j + 2) 2)))) g7 (by omega) (by simp)
      obtain ⟨fA, rA⟩ := fromY (X := H8) ⟨by omega, fun b hb' hne => by
        rw [f8.get b (by omega) (fun e => hne (.inr e)), f7.get b hb' (fun e => hne (.inl e))]⟩
      refine wrapUp (fin ⟨⟨bs.getD j 0, 0, 0, IntKind.wrap .i64 (IntKind.wrap .i16 (stV bs (j + 2) 2)), []⟩, none, 0, 0⟩ H8 (by unfold mkV; rw [if_neg q1, if_pos q2]) g8 fA ⟨Ints.nil, by show 0 ≤ _; omega⟩ (fun b hb' => absurd hb' In1.none) rA) fun r z => start3 r ?_
      refine ⟨_, rfl, _, rldc' g6 0, ?_⟩
      rw [if_neg q1, if_pos q2]
      exact ⟨_, _, c7, H8, s8, z⟩
    have s6 : Ints .u8 H6 a5 (rfT bs (j + 2) n).length k5 (rfT bs (j + 2) n) := o5.sl.keep k6
    obtain ⟨a7, k7, H7, g7, o7, f7, z7⟩ := l5 (kd := bs.getD j 0) (p := p) (k6 := k) (a6 := a) (n6 := i) (m := m) (i := i) s6 hxb (by omega) (by omega : H1.next < H6.next) (fun b hb' => by have := (o5.lt hb').1; omega) (rfT bs (j + 2) n) 0 none 0 H6 rfl (by omega) g6 OwnI.nil (Chg.refl _)
    obtain ⟨fA, rA⟩ := fromY (X := H7) (f7.weak fun _ _ h => .inr h)
    refine wrapUp (fin ⟨⟨bs.getD j 0, 0, 0, 0, rfT bs (j + 2) n⟩, a7, (rfT bs (j + 2) n).length, k7⟩ H7 (by unfold mkV; rw [if_neg q1, if_neg q2]; rfl) g7 fA ⟨o7.sl, by show (rfT bs (j + 2) n).length ≤ 17592186044416; omega⟩ (fun b hb' => by have := (o7.lt hb').1; omega) rA) fun r z => start3 r ?_
    refine ⟨_, rfl, _, rldc' g6 0, ?_⟩
    rw [if_neg q1, if_neg q2]
    exact z7 r z
theorem ok {H : Heap} {s : Option Addr} {sn sk : Nat} {bs : List Int} (hs : By H s sn sk bs) (hb : IsB bs) (hbl : bs.length ≤ 1000000) : F23.Post H (decL bs) (fun r => Ce 24 [.slice s sn sk] H = some r) := by
  have hl := hs.ln
  have k1 : Keep H.next H (H.push (.row [.slice s sn sk, .int .i64 0] true)) := Keep.push _ (Nat.le_refl _)
  have mk := RFm.mk1 (Q := fun b => b < H.next) hs (by omega) fun b hb => hs.lt hb
  generalize e1 : H.push (.row [.slice s sn sk, .int .i64 0] true) = H1 at mk k1
  have n1 : H1.next = H.next + 1 := by rw [← e1]; rfl
  have mk' : RS (fun b => b < H.next) H1 H.next bs 0 := by
    unfold RS rfX rfE
    rw [if_pos (by omega), if_pos (by omega), List.drop_zero]
    exact mk
  obtain ⟨H2, c2, r2, f2⟩ := RS.u8 hb mk'
  have e2 := r2.err
  have n2 := f2.next
  have k02 : Keep H.next H H2 := k1.trans (f2.keep (by omega) fun b _ hb => by have hb : b = H.next := hb; omega)
  obtain ⟨_, y0, y1⟩ := stV_one hb 0
  have r2' : RS (fun b => b < H2.next ∧ b ≠ H.next) H2 H.next bs 1 := by
    obtain ⟨a, n, k, r, q⟩ := r2
    exact ⟨a, n, k, r, fun b hb => by have := q b hb; omega⟩
  unfold decL
  have lst : ∀ r, (if decide (bs.length ≥ 1 ∧ bs.getD 0 0 > 4) = true then r = (.tuple #[.slice none 0 0, .int .i64 3], H2) else L1 H.next 0 none 0 0 (bs.getD 0 0) 0 H2 r) → Ce 24 [.slice s sn sk] H = some r := by
    intro r z
    refine call ⟨_, e1.symm, _, _, c2, _, e2, ?_⟩
    unfold rfE
    by_cases b1 : 0 + 1 ≤ bs.length
    · rw [if_pos b1, if_pos rfl]
      refine L0_step ?_
      rw [show decide (bs.length ≥ 1 ∧ bs.getD 0 0 > 4) = decide (bs.getD 0 0 > 4) from decide_eq_decide.2 ⟨fun h => h.2, fun h => ⟨by omega, h⟩⟩] at z
      exact z
    · rw [if_neg b1, if_neg (by decide)]
      refine L0_step ?_
      rw [decide_eq_false (by omega)] at z
      exact z
  by_cases b1 : bs.length < 1
  · rw [if_pos b1]
    have c6 := r2'.end_
    have h0 : bs.getD 0 0 = 0 := by rw [List.getD, List.getElem?_eq_none (by omega)]; rfl
    rw [if_pos b1] at c6
    refine F23.Post.bad k02 (lst _ ?_)
    rw [decide_eq_false (by omega), if_neg (by simp), h0]
    refine L1_step ?_
    rw [if_neg (by omega)]
    refine ⟨_, _, c6, ?_⟩
    rw [if_neg (by decide)]
  rw [if_neg b1]
  by_cases b2 : bs.getD 0 0 > 4
  · rw [if_pos b2]
    refine F23.Post.bad k02 (lst _ ?_)
    rw [decide_eq_true ⟨by omega, b2⟩, if_pos rfl]
  rw [if_neg b2]
  have ez : (((bs.getD 0 0).toNat : Nat) : Int) = bs.getD 0 0 := by omega
  obtain ⟨l, a', k', H', z, hz⟩ := l1 (H0 := H) (m := (bs.getD 0 0).toNat) hb hbl k02 (Nat.le_refl _) (by omega) (by omega) (bs.getD 0 0).toNat 0 1 [] none 0 H2 (by omega) rfl r2' ⟨Chg.refl _, ⟨rfl, .inl ⟨rfl, rfl, rfl⟩⟩, by simp, by simp⟩
  refine ⟨l, a', k', H', lst _ ?_, hz⟩
  rw [decide_eq_false (by omega), if_neg (by simp), ← ez]
  exact z
end F24
theorem xor8_b {x y : Int} (hx : 0 ≤ x ∧ x < 256) (hy : 0 ≤ y ∧ y < 256) : 0 ≤ ixor .u8 x y ∧ ixor .u8 x y < 256 := by
  have e1 : x = nb (BitVec.ofInt 8 x) := (nb_ofInt (n := 8) hx.1 (by have := hx.2; exact_mod_cast this)).symm
  have e2 : y = nb (BitVec.ofInt 8 y) := (nb_ofInt (n := 8) hy.1 (by have := hy.2; exact_mod_cast this)).symm
  rw [e1, e2]
  have := ixor_nb (k := .u8) rfl (BitVec.ofInt 8 x) (BitVec.ofInt 8 y)
  rw [show ixor .u8 (nb (BitVec.ofInt 8 x)) (nb (BitVec.ofInt 8 y)) = nb (BitVec.ofInt 8 x ^^^ BitVec.ofInt 8 y) from this]
  exact ⟨Int.natCast_nonneg _, by have := nb_lt (BitVec.ofInt 8 x ^^^ BitVec.ofInt 8 y); exact_mod_cast this⟩
theorem isB_set {xs : List Int} (h : IsB xs) {i : Nat} {v : Int} (hv : 0 ≤ v ∧ v < 256) : IsB (xs.set i v) := fun y hy => by
  rcases List.mem_or_eq_of_mem_set hy with hy | rfl
  · exact h y hy
  · exact hv
end Go.X
