/- The reference's reader of bytes; what the reference writes. -/
import Derived.Test.YtdnokmjobpbhhaaXzNc
import Derived.Test.YtdnokmjobpbhhaaXzRf
set_option linter.unusedVariables false
set_option linter.unusedSimpArgs false
set_option maxRecDepth 20000
namespace Go.X
open Go Go.RowKit Go.Proofs
namespace F74
theorem ok {H : Heap} {p : Nat} {xs : List Int} {e : Int} {Q : Nat → Prop} (h : RFm Q H p xs e) (n : Int) : ∃ a' k' H', Cr 74 [.pointer (some ⟨p, 0, none⟩), .int .i64 n] H = some (.slice a' (rawS xs e n).1.length k', H') ∧ OwnI .u8 H.next H' a' (rawS xs e n).1.length k' (rawS xs e n).1 ∧ RFm Q H' p (rawS xs e n).2.1 (rawS xs e n).2.2 ∧ Chg (fun b => b = p) H H' := by
  obtain ⟨a, m, k, r, hQ⟩ := h
  have hl := r.s.ln
  have hsm := r.sm
  have em : imax 0 n = max 0 n := by unfold imax; split <;> omega
  have fail : ∃ a' k' H', L0 p 0 (max 0 n) true H (.slice a' 0 k', H') ∧ OwnI .u8 H.next H' a' 0 k' [] ∧ RFm Q H' p [] 2 ∧ Chg (fun b => b = p) H H' := by
    have s1 := rstc' r.row (i := 1) (by simp) (.int .i64 2)
    generalize e1 : H.set p (.row ([.slice a m k, .int .i64 e].set 1 (.int .i64 2)) true) = H1 at s1
    have g1 : H1.get p = .row [.slice a m k, .int .i64 2] true := by rw [← e1]; simp
    have n1 : H1.next = H.next := by rw [← e1]; simp
    have c1 : Chg (fun b => b = p) H H1 := by rw [← e1]; exact Chg.set (S := fun b => b = p) _ rfl
    have s2 := rstc' g1 (i := 0) (by simp) (.slice none 0 0)
    generalize e2 : H1.set p (.row ([.slice a m k, .int .i64 2].set 0 (.slice none 0 0)) true) = H2 at s2
    have g2 : H2.get p = .row [.slice none 0 0, .int .i64 2] true := by rw [← e2]; simp
    have n2 : H2.next = H1.next := by rw [← e2]; simp
    have c2 : Chg (fun b => b = p) H1 H2 := by rw [← e2]; exact Chg.set (S := fun b => b = p) _ rfl
    refine ⟨none, 0, H2, L0_step ?_, OwnI.nil, ⟨none, 0, 0, ⟨g2, by have := r.lt; omega, Ints.nil, In1.none, by omega⟩, fun b hb => absurd hb In1.none⟩, c1.trans c2 fun _ _ h => h⟩
    rw [if_pos rfl]
    exact ⟨_, s1, _, s2, rfl⟩
  unfold rawS
  by_cases he : e = 0
  · by_cases hn : (xs.length : Int) < max 0 n
    · rw [if_pos (.inr hn)]
      obtain ⟨a', k', H', z, o, r', c⟩ := fail
      refine ⟨a', k', H', call ⟨p, 0, rfl, _, rldc' r.row 1, ?_⟩, o, r', c⟩
      rw [if_pos he]
      refine ⟨_, _, _, rldc' r.row 0, ?_⟩
      rw [em, decide_eq_true (by omega)]
      exact z
    · rw [if_neg (by omega)]
      have e1 : max 0 n = ((n.toNat : Nat) : Int) := by omega
      have hle : n.toNat ≤ m := by omega
      obtain ⟨a1, k1, p1, s1⟩ := r.s.part none (some ((n.toNat : Nat) : Int)) 0 n.toNat (.inl ⟨rfl, rfl⟩) (.inr rfl) (by omega) hle
      simp only [List.drop_zero, Nat.sub_zero] at p1 s1
      obtain ⟨a2, k2, H2, c2, o2, kp2⟩ := OwnI.app (K := .u8) (base := H.next) 1 OwnI.nil s1 (Nat.le_refl _) (by omega) (by omega)
      simp only [Nat.zero_add, List.nil_append] at c2 o2
      have row2 : H2.get p = .row [.slice a m k, .int .i64 e] true := by rw [kp2.get _ r.lt]; exact r.row
      obtain ⟨a3, k3, p3, s3⟩ := Ints.part (show Ints .u8 H2 a m k xs from r.s.keep kp2) (some ((n.toNat : Nat) : Int)) none n.toNat m (.inr rfl) (.inl ⟨rfl, rfl⟩) hle (Nat.le_refl _)
      have s3' : Ints .u8 H2 a3 (m - n.toNat) k3 (xs.drop n.toNat) := by
        rw [List.take_of_length_le (by simp; omega)] at s3; exact s3
      have ha3 : ∀ b, In1 a3 b → In1 a b := psl_sub p3
      have ap3 : ¬In1 a3 p := fun c => r.ap (ha3 p c)
      have lt := r.lt
      have s4 := rstc' row2 (i := 0) (by simp) (.slice a3 (m - n.toNat) k3)
      generalize e4 : H2.set p (.row ([.slice a m k, .int .i64 e].set 0 (.slice a3 (m - n.toNat) k3)) true) = H4 at s4
      have g4 : H4.get p = .row [.slice a3 (m - n.toNat) k3, .int .i64 e] true := by rw [← e4]; simp
      have n4 : H4.next = H2.next := by rw [← e4]; simp
      have cs : Chg (fun b => b = p) H2 H4 := by rw [← e4]; exact Chg.set (S := fun b => b = p) _ rfl
      have nn := kp2.next
      have lx : (xs.take n.toNat).length = n.toNat := by simp; omega
      rw [lx]
      refine ⟨a2, k2, H4, call ⟨p, 0, rfl, _, rldc' r.row 1, ?_⟩, ?_, ⟨a3, m - n.toNat, k3, ?_, fun b hb => hQ b (ha3 b hb)⟩, kp2.chg0.trans cs fun _ _ h => h⟩
      · rw [if_pos he]
        refine ⟨_, _, _, rldc' r.row 0, ?_⟩
        rw [em, e1, decide_eq_false (by omega)]
        refine L0_step ?_
        rw [if_neg (by simp)]
        exact ⟨_, _, _, rldc' r.row 0, _, _, _, p1, _, _, _, _, c2, _, _, _, rldc' row2 0, _, _, _, p3, H4, s4, rfl⟩
      · exact o2.chg cs fun b hb hbp => by have := (o2.lt hb).1; have hbp : b = p := hbp; omega
      · exact ⟨g4, by omega, s3'.chg cs fun b hb hbp => ap3 ((show b = p from hbp) ▸ hb), ap3, by omega⟩
  · rw [if_pos (.inl he)]
    obtain ⟨a', k', H', z, o, r', c⟩ := fail
    refine ⟨a', k', H', call ⟨p, 0, rfl, _, rldc' r.row 1, ?_⟩, o, r', c⟩
    rw [if_neg he, em]
    exact z
end F74
namespace F73
theorem l0 {H : Heap} {a : Option Addr} {n k : Nat} {xs : List Int} (hs : Ints .u8 H a n k xs) (hb : IsB xs) (hn : n ≤ 1099511627776) : ∀ (rest : List Int) (j : Nat), xs.drop j = rest → j + rest.length = n → L0 (beV (xs.take j)) a n k (n : Int) (j : Int) H (.int .u64 (beV xs), H) := by
  intro rest
  induction rest with
  | nil =>
    intro j hd hj
    simp only [List.length_nil] at hj
    have hl := hs.ln
    rw [List.take_of_length_le (by omega)]
    refine L0_step ?_
    rw [if_neg (by omega)]
  | cons x rest ih =>
    intro j hd hj
    simp only [List.length_cons] at hj
    have hx := drop_get hd
    obtain ⟨b, o, rfl⟩ := hs.at (by omega)
    have z := ih (j + 1) (drop_next hd) (by omega)
    refine L0_step ?_
    rw [if_pos (by omega)]
    refine ⟨b, o, rfl, by omega, by omega, x, Ints.get hs hx, ?_⟩
    rw [beV_snoc (hb.get hx), i64 (by omega) (by omega), show xs.take j ++ [x] = xs.take (j + 1) by rw [List.take_add_one, hx]; rfl]
    exact_mod_cast z
theorem ok {H : Heap} {p : Nat} {xs : List Int} {e : Int} {Q : Nat → Prop} (h : RFm Q H p xs e) (hb : IsB xs) (n : Int) : ∃ H', Cr 73 [.pointer (some ⟨p, 0, none⟩), .int .i64 n] H = some (.int .u64 (beV (rawS xs e n).1), H') ∧ RFm Q H' p (rawS xs e n).2.1 (rawS xs e n).2.2 ∧ Chg (fun b => b = p) H H' := by
  obtain ⟨a', k', H', c, o, r, g⟩ := F74.ok h n
  have hsm : (rawS xs e n).1.length ≤ 1099511627776 := by
    have := rawS_len xs e n
    obtain ⟨_, m, _, r, _⟩ := h
    have := r.sm; have := r.s.ln; omega
  have z := l0 o.sl (rawS_isB hb e n).1 hsm (rawS xs e n).1 0 rfl (by omega)
  rw [List.take_zero, beV_nil] at z
  exact ⟨H', call ⟨_, _, _, _, c, z⟩, r, g⟩
end F73
namespace F72
theorem ok {H : Heap} {p : Nat} {xs : List Int} {e : Int} {Q : Nat → Prop} (h : RFm Q H p xs e) (hb : IsB xs) : ∃ H', Cr 72 [.pointer (some ⟨p, 0, none⟩)] H = some (.int .i64 ((rawS xs e 1).1.getD 0 0), H') ∧ RFm Q H' p (rawS xs e 1).2.1 (rawS xs e 1).2.2 ∧ Chg (fun b => b = p) H H' := by
  obtain ⟨H', c, r, g⟩ := F73.ok h hb 1
  refine ⟨H', call ⟨_, _, c, ?_⟩, r, g⟩
  have hv : beV (rawS xs e 1).1 = (rawS xs e 1).1.getD 0 0 := by
    have hl : (rawS xs e 1).1 = [] ∨ ∃ x, (rawS xs e 1).1 = [x] ∧ 0 ≤ x ∧ x < 256 := by
      have hi := (rawS_isB hb e 1).1
      unfold rawS at hi ⊢
      split
      · exact .inl rfl
      · rename_i hc
        rw [if_neg hc] at hi
        cases xs with
        | nil => exact .inl rfl
        | cons x xs => exact .inr ⟨x, by simp, hi x (by simp)⟩
    rcases hl with hl | ⟨x, hl, hx⟩
    · rw [hl]; exact beV_nil
    · rw [hl, beV_one hx]; rfl
  have hr := (rawS_isB hb e 1).1
  have : 0 ≤ (rawS xs e 1).1.getD 0 0 ∧ (rawS xs e 1).1.getD 0 0 < 256 := by
    cases hh : (rawS xs e 1).1 with
    | nil => simp
    | cons x l => rw [hh] at hr; exact hr x (by simp)
  rw [hv, i64 (by omega) (by omega)]
end F72
namespace F75
theorem ok {H : Heap} {p : Nat} {xs : List Int} {e : Int} {Q : Nat → Prop} (h : RFm Q H p xs e) : Cr 75 [.pointer (some ⟨p, 0, none⟩)] H = some (.int .i64 (if e = 0 ∧ xs ≠ [] then 3 else e), H) := by
  obtain ⟨a, n, k, r, _⟩ := h
  have hl := r.s.ln
  refine call ⟨p, 0, rfl, _, rldc' r.row 1, ?_⟩
  by_cases he : e = 0
  · rw [if_pos he]
    refine ⟨_, _, _, rldc' r.row 0, L0_step ?_⟩
    by_cases hx : xs = []
    · subst hx
      rw [if_neg (by simp at hl ⊢; omega), if_neg (by simp)]
      exact ⟨_, rldc' r.row 1, rfl⟩
    · have := List.length_pos_iff.2 hx
      rw [if_pos (by simp; omega), if_pos ⟨he, hx⟩]
  · rw [if_neg he, if_neg fun c => he c.1]
    refine L0_step ?_
    rw [if_neg (by simp)]
    exact ⟨_, rldc' r.row 1, rfl⟩
end F75
section
variable {Q : Nat → Prop} {H : Heap} {p : Nat} {bs : List Int} {j : Nat}
abbrev RS (Q : Nat → Prop) (H : Heap) (p : Nat) (bs : List Int) (j : Nat) : Prop := RFm Q H p (rfX bs j) (rfE bs j)
theorem RS.raw (h : RS Q H p bs j) (w : Nat) : ∃ a' k' H', Cr 74 [.pointer (some ⟨p, 0, none⟩), .int .i64 (w : Int)] H = some (.slice a' (rfT bs j w).length k', H') ∧ OwnI .u8 H.next H' a' (rfT bs j w).length k' (rfT bs j w) ∧ RS Q H' p bs (j + w) ∧ Chg (fun b => b = p) H H' := by
  have := F74.ok h (w : Int)
  rw [rawS_st] at this
  exact this
theorem RS.num (hb : IsB bs) (h : RS Q H p bs j) (w : Nat) : ∃ H', Cr 73 [.pointer (some ⟨p, 0, none⟩), .int .i64 (w : Int)] H = some (.int .u64 (beV (rfT bs j w)), H') ∧ RS Q H' p bs (j + w) ∧ Chg (fun b => b = p) H H' := by
  have := F73.ok h (rfX_isB hb j) (w : Int)
  rw [rawS_st] at this
  exact this
theorem RS.u8 (hb : IsB bs) (h : RS Q H p bs j) : ∃ H', Cr 72 [.pointer (some ⟨p, 0, none⟩)] H = some (.int .i64 (bs.getD j 0), H') ∧ RS Q H' p bs (j + 1) ∧ Chg (fun b => b = p) H H' := by
  have := F72.ok h (rfX_isB hb j)
  rw [show (1 : Int) = ((1 : Nat) : Int) from rfl, rawS_st, rfT_one] at this
  exact this
theorem RS.end_ (h : RS Q H p bs j) : Cr 75 [.pointer (some ⟨p, 0, none⟩)] H = some (.int .i64 (if bs.length < j then 2 else if j < bs.length then 3 else 0), H) := by
  have := F75.ok h
  rw [rfEnd] at this
  exact this
end
theorem rowSet {H : Heap} {p i : Nat} {vs : List Value} (v : Value) (h : H.get p = .row vs true) (hp : p < H.next) (hi : i < vs.length) : ∃ H', stc H p i [v] = some H' ∧ H'.get p = .row (vs.set i v) true ∧ Chg (fun b => b = p) H H' ∧ H'.next = H.next :=
  ⟨_, rstc' h hi v, by simp, chgSet' _, rfl⟩
theorem rowAll {H : Heap} {p : Nat} {vs us : List Value} (h : H.get p = .row vs true) (hp : p < H.next) (hl : us.length = vs.length) : ∃ H', stc H p 0 us = some H' ∧ H'.get p = .row us true ∧ Chg (fun b => b = p) H H' ∧ H'.next = H.next :=
  ⟨_, rstAll h hl, by simp, chgSet' _, rfl⟩
theorem Chg.at {H H' : Heap} {p b : Nat} {o : AObj} (c : Chg (fun b => b = p) H H') (hb : b < H.next) (hne : b ≠ p) (h : H.get b = o) : H'.get b = o := by rw [c.get b hb hne]; exact h
theorem Chg.kp {H H' : Heap} {p base : Nat} (c : Chg (fun b => b = p) H H') (hb : base ≤ H.next) (hp : base ≤ p) : Keep base H H' := c.keep hb fun b _ h => by have h : b = p := h; omega
theorem fill (H : Heap) (z us : List Value) (hl : us.length = z.length) : ∃ H2, stc (H.push (.row z true)) H.next 0 us = some H2 ∧ H2.get H.next = .row us true ∧ Keep H.next H H2 ∧ H2.next = H.next + 1 :=
  ⟨_, rstAll (vs := z) (by simp) hl, by simp, (Keep.push _ (Nat.le_refl _)).trans (Keep.set _ (Nat.le_refl _)), rfl⟩
theorem Keep.reserve (H : Heap) (n : Nat) : Keep H.next H (X.reserve H n) := ⟨by rw [next_reserve]; omega, fun b hb => by rw [get_reserve, if_neg (by omega)]⟩
theorem Sl.ofRow {H : Heap} {b : Nat} {vs : List Value} {own : Bool} (h : H.get b = .row vs own) (hb : b < H.next) : Sl H 1 (some ⟨b, 0, none⟩) vs.length (UNK 1) vs :=
  ⟨by simp, .inr (.inr ⟨b, 0, rfl, rfl, hb, vs, own, h, by omega, by simp⟩)⟩
theorem isB_cons {x : Int} {xs : List Int} (h : 0 ≤ x ∧ x < 256) (h2 : IsB xs) : IsB (x :: xs) := fun y hy => by rcases List.mem_cons.1 hy with rfl | hy; exact h; exact h2 y hy
theorem isB_app {xs ys : List Int} (h : IsB xs) (h2 : IsB ys) : IsB (xs ++ ys) := fun y hy => by rcases List.mem_append.1 hy with hy | hy; exact h y hy; exact h2 y hy
theorem isB_nil : IsB [] := fun _ h => by cases h
theorem nb_wrap (x : Int) : IntKind.wrap .u64 x = nb (BitVec.ofInt 64 x) := wrap_nb (k := .u64) rfl x
theorem tbits_seg {xs : List Int} {v : BitVec 64} {n k : Nat} (hx : tbits xs = seg v (8 * n) (8 * k)) (hk : k < n) : tbits (xs ++ [IntKind.wrap .u8 (nb (v >>> (8 * (n - 1 - k))))]) = seg v (8 * n) (8 * (k + 1)) := by
  rw [tbits_append, hx, tbits_one, ← seg_app v (left := 8 * n) (k := 8 * k) (w := 8 * (k + 1)) (by omega) (by omega) (by omega)]
  congr 1
  rw [show 8 * (k + 1) - 8 * k = 8 by omega]
  apply List.ext_getElem?
  intro i
  by_cases hi : i < 8
  · rw [seg_get _ hi, seg_get _ hi]
    congr 1
    have hb : 0 ≤ IntKind.wrap .u8 (nb (v >>> (8 * (n - 1 - k)))) ∧ IntKind.wrap .u8 (nb (v >>> (8 * (n - 1 - k)))) < 256 := by
      rw [wrap_nb (k := .u8) rfl]
      exact ⟨Int.natCast_nonneg _, by have := nb_lt (BitVec.ofInt 8 (nb (v >>> (8 * (n - 1 - k))))); exact_mod_cast this⟩
    have e8 : ∀ x : Int, BitVec.ofInt 8 (IntKind.wrap .u8 x) = BitVec.ofInt 8 x := fun x => by rw [wrap_nb (k := .u8) rfl]; exact ofInt_nb (n := 8) _
    rw [← byte_bit hb (by omega), e8]
    rw [show (nb (v >>> (8 * (n - 1 - k)))) = (((v >>> (8 * (n - 1 - k))).toNat : Nat) : Int) from rfl, BitVec.ofInt_natCast, BitVec.getLsbD_ofNat, decide_eq_true (by omega), Bool.true_and]
    show (v >>> (8 * (n - 1 - k))).getLsbD (8 - 1 - i) = _
    rw [BitVec.getLsbD_ushiftRight]
    congr 1
    omega
  · rw [List.getElem?_eq_none (by rw [seg_len]; omega), List.getElem?_eq_none (by rw [seg_len]; omega)]
theorem wrap8_b (x : Int) : 0 ≤ IntKind.wrap .u8 x ∧ IntKind.wrap .u8 x < 256 := by
  rw [wrap_nb (k := .u8) rfl]
  exact ⟨Int.natCast_nonneg _, by have := nb_lt (BitVec.ofInt 8 x); exact_mod_cast this⟩
theorem wrap8_id {x : Int} (h : 0 ≤ x ∧ x < 256) : IntKind.wrap .u8 x = x := by
  rw [wrap_nb (k := .u8) rfl]
  exact nb_ofInt (n := 8) h.1 (by have := h.2; exact_mod_cast this)
namespace F71
theorem l0 {base n : Nat} {v : BitVec 64} (hn : n ≤ 8) : ∀ (d k : Nat) (xs : List Int) (a : Option Addr) (c : Nat) (H : Heap), k + d = n → xs.length = k → IsB xs → tbits xs = seg v (8 * n) (8 * k) → OwnI .u8 base H a k c xs → base ≤ H.next →
    ∃ a' k' H', L0 (nb v) a k c ((d : Int) - 1) H (.slice a' (pack (bitsN v (8 * n))).length k', H') ∧ OwnI .u8 base H' a' (pack (bitsN v (8 * n))).length k' (pack (bitsN v (8 * n))) ∧ Keep base H H' := by
  intro d
  induction d with
  | zero =>
    intro k xs a c H hk hl hb hx ho hbase
    have : k = n := by omega
    subst this
    have hp : pack (bitsN v (8 * k)) = xs := by rw [show bitsN v (8 * k) = tbits xs from hx.symm, pack_tbits hb]
    rw [hp, hl]
    refine ⟨a, c, H, L0_step ?_, ho, Keep.refl _ _⟩
    rw [if_neg (by omega)]
  | succ d ih =>
    intro k xs a c H hk hl hb hx ho hbase
    have hd : n - 1 - k = d := by omega
    obtain ⟨H1, e1, m1, g1, k1⟩ := one H [.int .u8 (IntKind.wrap .u8 (nb (v >>> (8 * d))))]
    have s1 : Ints .u8 H1 (some ⟨H.next, 0, none⟩) 1 (UNK 1) [IntKind.wrap .u8 (nb (v >>> (8 * d)))] := Sl.ofRow g1 (by omega)
    obtain ⟨a2, k2, H2, c2, o2, kp2⟩ := OwnI.app 1 (ho.keep k1) s1 (by omega) (by omega) (by omega)
    have := tbits_seg hx (by omega)
    rw [hd] at this
    obtain ⟨a3, k3, H3, z, o3, kp3⟩ := ih (k + 1) _ a2 k2 H2 (by omega) (by simp [hl]) (isB_app hb (isB_cons (wrap8_b _) isB_nil)) this o2 (by have := kp2.next; omega)
    refine ⟨a3, k3, H3, L0_step ?_, o3, ((k1.weak hbase).trans kp2).trans kp3⟩
    have e8 : IntKind.wrap .u64 (IntKind.wrap .i64 (8 * (((d + 1 : Nat) : Int) - 1))) = ((8 * d : Nat) : Int) := by
      rw [i64 (by omega) (by omega), u64 (by omega) (by omega)]; omega
    have es : ishr .u64 (nb v) ((8 * d : Nat) : Int) = nb (v >>> (8 * d)) := ishr_nb (k := .u64) v (8 * d) (show 8 * d ≤ 64 by omega)
    rw [if_pos (by omega), e8, es, i64 (by omega) (by omega)]
    refine ⟨by omega, H1, e1, _, _, _, _, c2, ?_⟩
    rw [show (((d + 1 : Nat) : Int) - 1 - 1) = ((d : Int) - 1) by omega]
    exact z
theorem ok {v : BitVec 64} {n : Nat} (hn : n ≤ 8) (H : Heap) : ∃ a' k' H', Cr 71 [.int .u64 (nb v), .int .i64 (n : Int)] H = some (.slice a' (pack (bitsN v (8 * n))).length k', H') ∧ OwnI .u8 H.next H' a' (pack (bitsN v (8 * n))).length k' (pack (bitsN v (8 * n))) ∧ Keep H.next H H' := by
  obtain ⟨a', k', H', z, o, g⟩ := l0 (base := H.next) (v := v) hn n 0 [] none 0 H (by omega) rfl isB_nil rfl OwnI.nil (Nat.le_refl _)
  refine ⟨a', k', H', call ?_, o, g⟩
  rw [i64 (by omega) (by omega)]
  exact z
theorem be (x : Int) {n : Nat} (hn : n ≤ 8) (H : Heap) : ∃ a' k' H', Cr 71 [.int .u64 (IntKind.wrap .u64 x), .int .i64 (n : Int)] H = some (.slice a' n k', H') ∧ OwnI .u8 H.next H' a' n k' (beB x n) ∧ Keep H.next H H' := by
  obtain ⟨a', k', H', z, o, g⟩ := ok (v := BitVec.ofInt 64 x) hn H
  have hl : (pack (bitsN (BitVec.ofInt 64 x) (8 * n))).length = n := beB_len x n
  rw [hl] at z o
  exact ⟨a', k', H', by rw [nb_wrap]; exact z, o, g⟩
end F71
namespace F48
theorem ok {H : Heap} {p : Pk} (h : PkOk H p) : ∃ H', Cr 48 [p.agg] H = some (.bool (decide (mayP p.v)), H') ∧ Keep H.next H H' := by
  obtain ⟨H1, e1, n1, g1, k1⟩ := one H p.cells
  have h1 := h.keep k1
  have hps := h.ps
  refine ⟨H1, call ⟨_, e1, _, rldc' g1 0, _, _, F57.ok _ _, ?_⟩, k1⟩
  by_cases d1 : nodeP p.v.f
  · rw [if_pos (by simpa using d1)]
    refine ⟨_, rldc' g1 1, _, _, F57.ok _ _, ?_⟩
    by_cases d2 : nodeP p.v.t
    · rw [if_pos (by simpa using d2)]
      refine ⟨_, rldc' g1 0, _, rldc' g1 1, ?_⟩
      by_cases d3 : p.v.f = p.v.t
      · rw [if_pos d3, decide_eq_false fun m => m.2.2.1 d3]
      · rw [if_neg d3]
        refine ⟨_, rldc' g1 2, ?_⟩
        by_cases d4 : p.v.n ≥ 0
        · rw [if_pos d4]
          refine ⟨_, rldc' g1 2, ?_⟩
          by_cases d5 : p.v.n < 70368744177664
          · rw [if_pos d5]
            refine ⟨_, rldc' g1 3, ?_⟩
            by_cases d6 : p.v.l ≥ 0
            · rw [if_pos d6]
              refine ⟨_, rldc' g1 3, ?_⟩
              by_cases d7 : p.v.l ≤ 15
              · rw [if_pos d7]
                refine ⟨_, _, _, rldc' g1 4, _, _, F22.ok h1.path (by omega), ?_⟩
                by_cases d8 : pathP p.v.path
                · rw [if_pos (by simpa using d8)]
                  refine ⟨_, _, _, rldc' g1 5, ?_⟩
                  by_cases d9 : (p.v.data.length : Int) ≥ 1
                  · rw [if_pos d9]
                    refine ⟨_, _, _, rldc' g1 5, ?_⟩
                    rw [show decide (mayP p.v) = decide ((p.v.data.length : Int) ≤ 24) from decide_eq_decide.2 ⟨fun m => m.2.2.2.2.2.2.2, fun m => ⟨d1, d2, d3, ⟨d4, by omega⟩, ⟨d6, d7⟩, d8, d9, m⟩⟩]
                  · rw [if_neg d9, decide_eq_false fun m => d9 m.2.2.2.2.2.2.1]
                · rw [if_neg (by simpa using d8), decide_eq_false fun m => d8 m.2.2.2.2.2.1]
              · rw [if_neg d7, decide_eq_false fun m => d7 m.2.2.2.2.1.2]
            · rw [if_neg d6, decide_eq_false fun m => d6 m.2.2.2.2.1.1]
          · rw [if_neg d5, decide_eq_false fun m => by have := m.2.2.2.1.2; omega]
        · rw [if_neg d4, decide_eq_false fun m => d4 m.2.2.2.1.1]
    · rw [if_neg (by simpa using d2), decide_eq_false fun m => d2 m.2.1]
  · rw [if_neg (by simpa using d1), decide_eq_false fun m => d1 m.1]
end F48
namespace F49
theorem l0 {G : Heap} {a : Option Addr} {n k : Nat} {xs : List Int} (hs : Ints .i64 G a n k xs) (hn : n ≤ 100) : ∀ (d : Nat) (b : Option Addr) (c : Nat) (H : Heap), d ≤ n → Keep G.next G H → OwnI .i64 G.next H b (n - d) c (xs.drop d).reverse →
    ∃ a' k' H', L0 a n k b (n - d) c ((d : Int) - 1) H (.slice a' xs.reverse.length k', H') ∧ OwnI .i64 G.next H' a' xs.reverse.length k' xs.reverse ∧ Keep G.next G H' := by
  have hl := hs.ln
  intro d
  induction d with
  | zero =>
    intro b c H hd hk ho
    rw [List.drop_zero] at ho
    rw [List.length_reverse, hl]
    refine ⟨b, c, H, L0_step ?_, ho, hk⟩
    rw [if_neg (by omega)]; rfl
  | succ d ih =>
    intro b c H hd hk ho
    obtain ⟨b1, o1, rfl⟩ := hs.at (by omega)
    have hx := getD_some (xs := xs) (j := d) (by omega)
    obtain ⟨H1, e1, m1, g1, k1⟩ := one H [.int .i64 (xs.getD d 0)]
    have s1 : Ints .i64 H1 (some ⟨H.next, 0, none⟩) 1 (UNK 1) [xs.getD d 0] := Sl.ofRow g1 (by omega)
    have nk := hk.next
    obtain ⟨a2, k2, H2, c2, o2, kp2⟩ := OwnI.app 8 (ho.keep k1) s1 (by omega) (by omega) (by omega)
    have er : (xs.drop (d + 1)).reverse ++ [xs.getD d 0] = (xs.drop d).reverse := by
      have : xs.drop d = xs.getD d 0 :: xs.drop (d + 1) := list_split (by omega)
      rw [this, List.reverse_cons]
    rw [er, show n - (d + 1) + 1 = n - d by omega] at o2
    rw [show n - (d + 1) + 1 = n - d by omega] at c2
    obtain ⟨a', k', H', z, o', k''⟩ := ih a2 k2 H2 (by omega) ((hk.trans (k1.weak nk)).trans kp2) o2
    refine ⟨a', k', H', L0_step ?_, o', k''⟩
    rw [if_pos (by omega), show (((d + 1 : Nat) : Int) - 1) = (d : Int) by omega]
    refine ⟨b1, o1, rfl, by omega, by omega, _, Ints.get (hs.keep hk) hx, H1, e1, _, _, _, _, c2, ?_⟩
    rw [i64 (by omega) (by omega)]
    exact z
theorem ok {H : Heap} {a : Option Addr} {n k : Nat} {xs : List Int} (hs : Ints .i64 H a n k xs) (hn : n ≤ 140737488355328) : ∃ a' k' H', Cr 49 [.slice a n k] H = some (.slice a' (backL xs).length k', H') ∧ OwnI .i64 H.next H' a' (backL xs).length k' (backL xs) ∧ Keep H.next H H' := by
  have hl := hs.ln
  unfold backL
  by_cases h : pathP xs
  · have h16 := h.2.2
    rw [if_pos h]
    obtain ⟨a', k', H', z, o, g⟩ := l0 hs (by omega) n none 0 H (Nat.le_refl _) (Keep.refl _ _) (by rw [Nat.sub_self, List.drop_eq_nil_of_le (by omega)]; exact OwnI.nil)
    refine ⟨a', k', H', call ⟨_, _, F22.ok hs hn, ?_⟩, o, g⟩
    rw [if_pos (by simpa using h), i64 (by omega) (by omega)]
    rw [Nat.sub_self] at z
    exact z
  · rw [if_neg h]
    refine ⟨none, 0, H, call ⟨_, _, F22.ok hs hn, ?_⟩, OwnI.nil, Keep.refl _ _⟩
    rw [if_neg (by simpa using h)]
    rfl
end F49
/-- Slices of bytes that are put together. -/
structure Bs where
  a : Option Addr
  n : Nat
  k : Nat
  xs : List Int
abbrev Bs.cell (b : Bs) : Value := .slice b.a b.n b.k
namespace F70
theorem l0 {G : Heap} {s : Option Addr} {sn sk : Nat} {l : List Bs} (hs : Sl G 1 s sn sk (l.map Bs.cell)) (hl : ∀ b ∈ l, By G b.a b.n b.k b.xs) (hn : sn ≤ 10) (hsz : ∀ b ∈ l, b.n ≤ 1000) : ∀ (rest : List Bs) (j : Nat) (xs : List Int) (a : Option Addr) (k : Nat) (H : Heap), l.drop j = rest → j + rest.length = sn → Keep G.next G H → OwnI .u8 G.next H a xs.length k xs → xs.length ≤ 1000 * j →
    ∃ a' k' H', L0 a xs.length k s sn sk (sn : Int) (j : Int) H (.slice a' (xs ++ rest.flatMap Bs.xs).length k', H') ∧ OwnI .u8 G.next H' a' (xs ++ rest.flatMap Bs.xs).length k' (xs ++ rest.flatMap Bs.xs) ∧ Keep G.next G H' := by
  intro rest
  induction rest with
  | nil =>
    intro j xs a k H hd hj hk ho hx
    simp only [List.length_nil] at hj
    rw [List.flatMap_nil, List.append_nil]
    refine ⟨a, k, H, L0_step ?_, ho, hk⟩
    rw [if_neg (by omega)]
  | cons b rest ih =>
    intro j xs a k H hd hj hk ho hx
    simp only [List.length_cons] at hj
    have hb := drop_get hd
    have hmem := List.mem_of_getElem? hb
    obtain ⟨c, o, rfl⟩ := hs.at (by omega)
    have sb := (hl b hmem).keep hk
    have hbn := Ints.ln (hl b hmem)
    have hsz1 := hsz b hmem
    obtain ⟨a2, k2, H2, c2, o2, kp2⟩ := OwnI.app 1 ho sb hk.next (by omega) (by omega)
    rw [← hbn, ← List.length_append] at o2
    obtain ⟨a', k', H', z, o', k''⟩ := ih (j + 1) (xs ++ b.xs) a2 k2 H2 (drop_next hd) (by omega) (hk.trans kp2) o2 (by rw [List.length_append]; omega)
    rw [List.append_assoc, ← List.flatMap_cons] at z o'
    refine ⟨a', k', H', L0_step ?_, o', k''⟩
    rw [if_pos (by omega)]
    have ld : ldc H c (o + Int.toNat (j : Int) * 1) = some (.slice b.a b.n b.k) := by
      rw [Int.toNat_natCast]
      exact (hs.keep hk).ld1 (by rw [List.getElem?_map, hb]; rfl)
    refine ⟨c, o, rfl, by omega, by omega, _, _, _, ld, _, _, _, _, c2, ?_⟩
    rw [i64 (by omega) (by omega), ← hbn, ← List.length_append]
    exact_mod_cast z
theorem ok {H : Heap} {s : Option Addr} {sn sk : Nat} {l : List Bs} (hs : Sl H 1 s sn sk (l.map Bs.cell)) (hl : ∀ b ∈ l, By H b.a b.n b.k b.xs) (hn : sn ≤ 10) (hsz : ∀ b ∈ l, b.n ≤ 1000) : ∃ a' k' H', Cr 70 [.slice s sn sk] H = some (.slice a' (l.flatMap Bs.xs).length k', H') ∧ OwnI .u8 H.next H' a' (l.flatMap Bs.xs).length k' (l.flatMap Bs.xs) ∧ Keep H.next H H' := by
  have hc : l.length = sn := by have := hs.len; simpa using this
  obtain ⟨a', k', H', z, o, g⟩ := l0 hs hl hn hsz l 0 [] none 0 H rfl (by omega) (Keep.refl _ _) OwnI.nil (by simp)
  rw [List.nil_append] at z o
  exact ⟨a', k', H', call z, o, g⟩
end F70
theorem upV_eq (v : PV) (me : Int) : upV v me = if ¬(mayP v ∧ nodeP me) then (pv0, 1) else if v.l = 0 then (pv0, 11) else if me ∈ v.path then ({ v with l := v.l - 1 }, 0) else if 16 ≤ v.path.length then (pv0, 5) else ({ v with l := v.l - 1, path := v.path ++ [me] }, 0) := by
  have hs : ∀ x, stepV v me = x → upV v me = if x.2 ≠ 0 ∨ me ∈ x.1.path then x else if 16 ≤ x.1.path.length then (pv0, 5) else ({ x.1 with path := x.1.path ++ [me] }, 0) := fun x hx => by subst hx; rfl
  by_cases h1 : ¬(mayP v ∧ nodeP me)
  · rw [hs (pv0, 1) (by unfold stepV; rw [if_pos h1]), if_pos (.inl (by decide)), if_pos h1]
  · rw [if_neg h1]
    by_cases h2 : v.l = 0
    · rw [hs (pv0, 11) (by unfold stepV; rw [if_neg h1, if_pos h2]), if_pos (.inl (by decide)), if_pos h2]
    · rw [hs _ (by unfold stepV; rw [if_neg h1, if_neg h2]), if_neg h2]
      by_cases h3 : me ∈ v.path
      · rw [if_pos (.inr h3), if_pos h3]
      · rw [if_neg (fun c => c.elim (fun c => c rfl) h3), if_neg h3]
theorem downV_eq (v : PV) (me : Int) : downV v me = if ¬(mayP v ∧ nodeP me) then (pv0, 0, 1) else if v.l = 0 then (pv0, 0, 11) else if ix v.path me < 0 ∨ ix v.path me = (v.path.length : Int) - 1 then (pv0, 0, 6) else ({ v with l := v.l - 1 }, v.path.getD (ix v.path me + 1).toNat 0, 0) := by
  have hs : ∀ x, stepV v me = x → downV v me = if x.2 ≠ 0 then (x.1, 0, x.2) else if ix x.1.path me < 0 ∨ ix x.1.path me = (x.1.path.length : Int) - 1 then (pv0, 0, 6) else (x.1, x.1.path.getD (ix x.1.path me + 1).toNat 0, 0) := fun x hx => by subst hx; rfl
  by_cases h1 : ¬(mayP v ∧ nodeP me)
  · rw [hs (pv0, 1) (by unfold stepV; rw [if_pos h1]), if_pos (by decide), if_pos h1]
  · rw [if_neg h1]
    by_cases h2 : v.l = 0
    · rw [hs (pv0, 11) (by unfold stepV; rw [if_neg h1, if_pos h2]), if_pos (by decide), if_pos h2]
    · rw [hs _ (by unfold stepV; rw [if_neg h1, if_neg h2]), if_neg h2, if_neg (fun c => c rfl)]
/-- A packet's row, put together anew. -/
abbrev rowP (f t n l : Int) (pa : Option Addr) (pn pk : Nat) (da : Option Addr) (dn dk : Nat) : List Value := [.int .i64 f, .int .i64 t, .int .i64 n, .int .i64 l, .slice pa pn pk, .slice da dn dk]
namespace F46
theorem l1 {base : Nat} {X : Heap} {P Z : Nat} {f t n l : Int} {path data : List Int} {pa da a6 : Option Addr} {pn pk dk k6 : Nat} {zc : List Value} (hPZ : P ≠ Z) (hP : P < base) (hZ : Z < base) (hb : base ≤ X.next) (gP : X.get P = .row (rowP f t n l pa pn pk da data.length dk) true) (gZ : X.get Z = .row zc true) (hz : zc.length = 6)
    (hd : Ints .u8 X da data.length dk data) (hds : data.length ≤ 140737488355328) (hps : path.length ≤ 17592186044416) (o6 : OwnI .i64 base X a6 path.length k6 path) {low : Nat} (hlP : low ≤ P) (hlZ : low ≤ Z) :
    ∃ q X', L1 P 0 Z 0 a6 path.length k6 X (.tuple #[q.agg, .int .i64 0], X') ∧ q.v = ⟨f, t, n, l, path, data⟩ ∧ PkOk X' q ∧ Keep low X X' := by
  obtain ⟨a7, k7, X1, c7, o7, kp7⟩ := OwnI.app (K := .u8) (base := X.next) 1 OwnI.nil hd (Nat.le_refl _) (by omega) (by omega)
  simp only [Nat.zero_add, List.nil_append] at c7 o7
  have n1 := kp7.next
  have gP1 : X1.get P = .row (rowP f t n l pa pn pk da data.length dk) true := by rw [kp7.get _ (by omega)]; exact gP
  have gZ1 : X1.get Z = .row zc true := by rw [kp7.get _ (by omega)]; exact gZ
  let q : Pk := ⟨⟨f, t, n, l, path, data⟩, a6, k6, a7, k7⟩
  have ow : PkOwn base X1 q := ⟨o6.keep kp7, o7.weak hb, hps, hds, fun b h1 h2 => by have := (o6.lt h1).2; have := (o7.lt h2).1; omega⟩
  let X2 := X1.set P (.row (rowP f t n l a6 path.length k6 da data.length dk) true)
  let X3 := X2.set P (.row q.cells true)
  let X4 := X3.set Z (.row q.cells true)
  have w2 : stc X1 P 4 [.slice a6 path.length k6] = some X2 := rstc' gP1 (i := 4) (by simp) _
  have g2 : X2.get P = .row (rowP f t n l a6 path.length k6 da data.length dk) true := by simp [X2]
  have w3 : stc X2 P 5 [.slice a7 data.length k7] = some X3 := rstc' g2 (i := 5) (by simp) _
  have g3 : X3.get P = .row q.cells true := by simp [X3]
  have gZ3 : X3.get Z = .row zc true := by
    show ((X1.set _ _).set _ _).get _ = _
    rw [Heap.get_set_ne _ _ _ _ (Ne.symm hPZ), Heap.get_set_ne _ _ _ _ (Ne.symm hPZ)]; exact gZ1
  have w4 : stc X3 Z 0 q.cells = some X4 := rstAll gZ3 (by rw [hz]; rfl)
  have g4 : X4.get Z = .row q.cells true := by simp [X4]
  refine ⟨q, X4, L1_step ?_, rfl, (((ow.set hP _).set hP _).set hZ _).ok, (((kp7.weak (by omega)).trans (Keep.set _ hlP)).trans (Keep.set _ hlP)).trans (Keep.set _ hlZ)⟩
  exact ⟨_, _, _, rldc' gP 5, _, _, _, _, c7, X2, w2, X3, w3, _, _, _, _, _, _, _, _, _, _, rldAll g3, X4, w4, _, _, _, _, _, _, _, _, _, _, rldAll g4, rfl⟩
theorem ok {H : Heap} {p : Pk} (h : PkOk H p) (me : Int) : ∃ q H', Cr 46 [p.agg, .int .i64 me] H = some (.tuple #[q.agg, .int .i64 (upV p.v me).2], H') ∧ q.v = (upV p.v me).1 ∧ PkOk H' q ∧ Keep H.next H H' := by
  obtain ⟨H1, H2, e1, e2, n1, n2, g1, g2, g3, k1, k2⟩ := two H p.cells pk0.cells
  have h2 := h.keep k2
  obtain ⟨H3, c3, p3⟩ := F48.ok h2
  have h3 := h2.keep p3
  have hn3 := p3.next
  have gp3 : H3.get H.next = .row p.cells true := by rw [p3.get _ (by omega)]; exact g2
  have gz3 : H3.get H1.next = .row pk0.cells true := by rw [p3.get _ (by omega)]; exact g3
  have k3 : Keep H.next H H3 := k2.trans (p3.weak (by omega))
  have go : ∀ r, (if mayP p.v then L0 me H.next 0 H1.next 0 (!decide (nodeP me)) H3 r else L0 me H.next 0 H1.next 0 true H3 r) → Cr 46 [p.agg, .int .i64 me] H = some r := by
    intro r hr
    refine call ⟨_, e1, _, e2, _, _, _, _, _, _, _, _, _, _, rldAll g2, _, _, c3, ?_⟩
    by_cases hm : mayP p.v
    · rw [if_pos hm] at hr
      rw [if_pos (by simpa using hm)]
      exact ⟨_, _, F57.ok _ _, hr⟩
    · rw [if_neg hm] at hr
      rw [if_neg (by simpa using hm)]
      exact hr
  have zero : ∀ Y : Heap, Y.get H1.next = .row pk0.cells true → Keep H.next H Y → ∃ X, stc Y H1.next 0 pk0.cells = some X ∧ ldAll X H1.next 0 pk0.cells ∧ Keep H.next H X := fun Y g k =>
    ⟨_, rstAll g rfl, rldAll (vs := pk0.cells) (own := true) (by simp), k.trans (Keep.set _ (by omega))⟩
  rw [upV_eq]
  by_cases hm : ¬(mayP p.v ∧ nodeP me)
  · rw [if_pos hm]
    obtain ⟨X, x1, x2, x3⟩ := zero H3 gz3 k3
    refine ⟨pk0, X, go _ ?_, rfl, (pk0_own 0 _).ok, x3⟩
    have z : L0 me H.next 0 H1.next 0 true H3 (.tuple #[pk0.agg, .int .i64 1], X) := by
      refine L0_step ?_
      rw [if_pos rfl]
      exact ⟨_, x1, _, _, _, _, _, _, _, _, _, _, x2, rfl⟩
    by_cases hm1 : mayP p.v
    · rw [if_pos hm1, decide_eq_false fun hn => hm ⟨hm1, hn⟩]; exact z
    · rw [if_neg hm1]; exact z
  rw [if_neg hm]
  replace hm := Classical.not_not.1 hm
  suffices ∃ q H', L0 me H.next 0 H1.next 0 false H3 (.tuple #[q.agg, .int .i64 (if p.v.l = 0 then (pv0, 11) else if me ∈ p.v.path then ({ p.v with l := p.v.l - 1 }, 0) else if 16 ≤ p.v.path.length then (pv0, 5) else ({ p.v with l := p.v.l - 1, path := p.v.path ++ [me] }, 0) : PV × Int).2], H') ∧ q.v = (if p.v.l = 0 then (pv0, 11) else if me ∈ p.v.path then ({ p.v with l := p.v.l - 1 }, 0) else if 16 ≤ p.v.path.length then (pv0, 5) else ({ p.v with l := p.v.l - 1, path := p.v.path ++ [me] }, 0) : PV × Int).1 ∧ PkOk H' q ∧ Keep H.next H H' by
    obtain ⟨q, H', z, r⟩ := this
    exact ⟨q, H', go _ (by rw [if_pos hm.1, decide_eq_true hm.2]; exact z), r⟩
  by_cases hl : p.v.l = 0
  · rw [if_pos hl]
    obtain ⟨X, x1, x2, x3⟩ := zero H3 gz3 k3
    refine ⟨pk0, X, L0_step ?_, rfl, (pk0_own 0 _).ok, x3⟩
    rw [if_neg (by simp)]
    refine ⟨_, rldc' gp3 3, ?_⟩
    rw [if_pos hl]
    exact ⟨_, x1, _, _, _, _, _, _, _, _, _, _, x2, rfl⟩
  rw [if_neg hl]
  have hl2 := hm.1.2.2.2.2.1
  have h16 := hm.1.2.2.2.2.2.1.2.2
  have ew : IntKind.wrap .i64 (p.v.l - 1) = p.v.l - 1 := i64 (by omega) (by omega)
  have hps := h.ps
  have hds := h.ds
  let X4 := H3.set H.next (.row (rowP p.v.f p.v.t p.v.n (p.v.l - 1) p.pa p.v.path.length p.pk p.da p.v.data.length p.dk) true)
  have w4 : stc H3 H.next 3 [.int .i64 (IntKind.wrap .i64 (p.v.l - 1))] = some X4 := by rw [ew]; exact rstc' gp3 (i := 3) (by simp) _
  have g4 : X4.get H.next = .row (rowP p.v.f p.v.t p.v.n (p.v.l - 1) p.pa p.v.path.length p.pk p.da p.v.data.length p.dk) true := by simp [X4]
  have gz4 : X4.get H1.next = .row pk0.cells true := by
    show (H3.set _ _).get _ = _
    rw [Heap.get_set_ne _ _ _ _ (by omega)]; exact gz3
  have k4 : Keep H.next H X4 := k3.trans (Keep.set _ (Nat.le_refl _))
  have hn4 : X4.next = H3.next := rfl
  have kst : Keep H.next H3 X4 := Keep.set _ (Nat.le_refl _)
  have hp4 : Ints .i64 X4 p.pa p.v.path.length p.pk p.v.path := h.path.chg (k4.chg0 (S := fun _ => False)) fun _ _ h => h
  have hd4 : Ints .u8 X4 p.da p.v.data.length p.dk p.v.data := h.data.chg (k4.chg0 (S := fun _ => False)) fun _ _ h => h
  obtain ⟨a5, k5, H5, c5, o5, kp5⟩ := OwnI.app (K := .i64) (base := X4.next) 8 OwnI.nil hp4 (Nat.le_refl _) (by omega) (by omega)
  simp only [Nat.zero_add, List.nil_append] at c5 o5
  have n5 := kp5.next
  have g5 : H5.get H.next = .row (rowP p.v.f p.v.t p.v.n (p.v.l - 1) p.pa p.v.path.length p.pk p.da p.v.data.length p.dk) true := by rw [kp5.get _ (by omega)]; exact g4
  have gz5 : H5.get H1.next = .row pk0.cells true := by rw [kp5.get _ (by omega)]; exact gz4
  have hd5 := hd4.keep kp5
  have kk5 : Keep H.next H H5 := k4.trans (kp5.weak (by omega))
  have c6 := F23.ok o5.sl (by omega) me
  by_cases hi : me ∈ p.v.path
  · rw [if_pos hi]
    obtain ⟨q, X', z, h1, h2, h3'⟩ := l1 (base := X4.next) (low := H.next) (by omega) (by omega) (by omega) n5 g5 gz5 rfl hd5 hds hps o5 (Nat.le_refl _) (by omega)
    refine ⟨q, X', L0_step ?_, h1, h2, kk5.trans h3'⟩
    rw [if_neg (by simp)]
    refine ⟨_, rldc' gp3 3, ?_⟩
    rw [if_neg hl]
    refine ⟨_, rldc' gp3 3, X4, w4, _, _, _, rldc' g4 4, _, _, _, _, c5, _, _, c6, ?_⟩
    rw [if_neg (by have := (ix_mem p.v.path me).2 hi; omega)]
    exact z
  rw [if_neg hi]
  have hix : ix p.v.path me < 0 := by
    have : ¬0 ≤ ix p.v.path me := fun c => hi ((ix_mem _ _).1 c)
    omega
  by_cases h6 : 16 ≤ p.v.path.length
  · rw [if_pos h6]
    obtain ⟨X, x1, x2, x3⟩ := zero H5 gz5 kk5
    refine ⟨pk0, X, L0_step ?_, rfl, (pk0_own 0 _).ok, x3⟩
    rw [if_neg (by simp)]
    refine ⟨_, rldc' gp3 3, ?_⟩
    rw [if_neg hl]
    refine ⟨_, rldc' gp3 3, X4, w4, _, _, _, rldc' g4 4, _, _, _, _, c5, _, _, c6, ?_⟩
    rw [if_pos hix, if_pos (by omega)]
    exact ⟨_, x1, _, _, _, _, _, _, _, _, _, _, x2, rfl⟩
  · rw [if_neg h6]
    obtain ⟨H6, e6, n6, g6, k6⟩ := one H5 [.int .i64 me]
    have s6 : Ints .i64 H6 (some ⟨H5.next, 0, none⟩) 1 (UNK 1) [me] := Sl.ofRow g6 (by omega)
    obtain ⟨a7, k7, H7, c7, o7, kp7⟩ := OwnI.app (base := X4.next) 8 (o5.keep k6) s6 (by omega) (by omega) (by omega)
    have el : p.v.path.length + 1 = (p.v.path ++ [me]).length := by simp
    rw [el] at c7 o7
    have n7 := kp7.next
    have k57 : Keep X4.next H5 H7 := (k6.weak n5).trans kp7
    have g7 : H7.get H.next = .row (rowP p.v.f p.v.t p.v.n (p.v.l - 1) p.pa p.v.path.length p.pk p.da p.v.data.length p.dk) true := by rw [k57.get _ (by omega)]; exact g5
    have gz7 : H7.get H1.next = .row pk0.cells true := by rw [k57.get _ (by omega)]; exact gz5
    have hd7 : Ints .u8 H7 p.da p.v.data.length p.dk p.v.data := hd4.chg ((kp5.trans k57).chg0 (S := fun _ => False)) fun _ _ h => h
    obtain ⟨q, X', z, h1, h2, h3'⟩ := l1 (base := X4.next) (low := H.next) (by omega) (by omega) (by omega) (by omega) g7 gz7 rfl hd7 hds (by simp; omega) o7 (Nat.le_refl _) (by omega)
    refine ⟨q, X', L0_step ?_, h1, h2, (kk5.trans (k57.weak (by omega))).trans h3'⟩
    rw [if_neg (by simp)]
    refine ⟨_, rldc' gp3 3, ?_⟩
    rw [if_neg hl]
    refine ⟨_, rldc' gp3 3, X4, w4, _, _, _, rldc' g4 4, _, _, _, _, c5, _, _, c6, ?_⟩
    rw [if_pos hix, if_neg (by omega)]
    exact ⟨H6, e6, _, _, _, _, c7, z⟩
end F46
namespace F47
theorem ok {H : Heap} {p : Pk} (h : PkOk H p) (me : Int) : ∃ q H', Cr 47 [p.agg, .int .i64 me] H = some (.tuple #[q.agg, .int .i64 (downV p.v me).2.1, .int .i64 (downV p.v me).2.2], H') ∧ q.v = (downV p.v me).1 ∧ PkOk H' q ∧ Keep H.next H H' := by
  obtain ⟨H1, H2, e1, e2, n1, n2, g1, g2, g3, k1, k2⟩ := two H p.cells pk0.cells
  have h2 := h.keep k2
  obtain ⟨H3, c3, p3⟩ := F48.ok h2
  have h3 := h2.keep p3
  have hn3 := p3.next
  have gp3 : H3.get H.next = .row p.cells true := by rw [p3.get _ (by omega)]; exact g2
  have gz3 : H3.get H1.next = .row pk0.cells true := by rw [p3.get _ (by omega)]; exact g3
  have k3 : Keep H.next H H3 := k2.trans (p3.weak (by omega))
  have go : ∀ r, (if mayP p.v then L0 me H.next 0 H1.next 0 (!decide (nodeP me)) H3 r else L0 me H.next 0 H1.next 0 true H3 r) → Cr 47 [p.agg, .int .i64 me] H = some r := by
    intro r hr
    refine call ⟨_, e1, _, e2, _, _, _, _, _, _, _, _, _, _, rldAll g2, _, _, c3, ?_⟩
    by_cases hm : mayP p.v
    · rw [if_pos hm] at hr
      rw [if_pos (by simpa using hm)]
      exact ⟨_, _, F57.ok _ _, hr⟩
    · rw [if_neg hm] at hr
      rw [if_neg (by simpa using hm)]
      exact hr
  obtain ⟨X, x1, x2, x3⟩ : ∃ X, stc H3 H1.next 0 pk0.cells = some X ∧ ldAll X H1.next 0 pk0.cells ∧ Keep H.next H X :=
    ⟨_, rstAll gz3 rfl, rldAll (vs := pk0.cells) (own := true) (by simp), k3.trans (Keep.set _ (by omega))⟩
  rw [downV_eq]
  by_cases hm : ¬(mayP p.v ∧ nodeP me)
  · rw [if_pos hm]
    refine ⟨pk0, X, go _ ?_, rfl, (pk0_own 0 _).ok, x3⟩
    have z : L0 me H.next 0 H1.next 0 true H3 (.tuple #[pk0.agg, .int .i64 0, .int .i64 1], X) := by
      refine L0_step ?_
      rw [if_pos rfl]
      exact ⟨_, x1, _, _, _, _, _, _, _, _, _, _, x2, rfl⟩
    by_cases hm1 : mayP p.v
    · rw [if_pos hm1, decide_eq_false fun hn => hm ⟨hm1, hn⟩]; exact z
    · rw [if_neg hm1]; exact z
  rw [if_neg hm]
  replace hm := Classical.not_not.1 hm
  by_cases hl : p.v.l = 0
  · rw [if_pos hl]
    refine ⟨pk0, X, go _ ?_, rfl, (pk0_own 0 _).ok, x3⟩
    rw [if_pos hm.1, decide_eq_true hm.2]
    refine L0_step ?_
    rw [if_neg (by simp)]
    refine ⟨_, rldc' gp3 3, ?_⟩
    rw [if_pos hl]
    exact ⟨_, x1, _, _, _, _, _, _, _, _, _, _, x2, rfl⟩
  rw [if_neg hl]
  have hl2 := hm.1.2.2.2.2.1
  have h16 := hm.1.2.2.2.2.2.1.2.2
  have hps := h.ps
  have hds := h.ds
  have c6 := F23.ok h3.path (by omega) me
  have hle := ix_le p.v.path me
  have go2 : ∀ r, L1 H.next 0 H1.next 0 (ix p.v.path me) (decide (ix p.v.path me < 0 ∨ ix p.v.path me = (p.v.path.length : Int) - 1)) H3 r → Cr 47 [p.agg, .int .i64 me] H = some r := by
    intro r hr
    refine go _ ?_
    rw [if_pos hm.1, decide_eq_true hm.2]
    refine L0_step ?_
    rw [if_neg (by simp)]
    refine ⟨_, rldc' gp3 3, ?_⟩
    rw [if_neg hl]
    refine ⟨_, _, _, rldc' gp3 4, _, _, c6, ?_⟩
    by_cases h0 : ix p.v.path me < 0
    · rw [if_pos h0]
      rw [decide_eq_true (.inl h0)] at hr
      exact hr
    · rw [if_neg h0]
      refine ⟨_, _, _, rldc' gp3 4, ?_⟩
      rw [i64 (by omega) (by omega), show decide (ix p.v.path me + 1 ≥ (p.v.path.length : Int)) = decide (ix p.v.path me < 0 ∨ ix p.v.path me = (p.v.path.length : Int) - 1) from decide_eq_decide.2 (by omega)]
      exact hr
  by_cases hi : ix p.v.path me < 0 ∨ ix p.v.path me = (p.v.path.length : Int) - 1
  · rw [if_pos hi]
    refine ⟨pk0, X, go2 _ ?_, rfl, (pk0_own 0 _).ok, x3⟩
    rw [decide_eq_true hi]
    refine L1_step ?_
    rw [if_pos rfl]
    exact ⟨_, x1, _, _, _, _, _, _, _, _, _, _, x2, rfl⟩
  rw [if_neg hi]
  have ew : IntKind.wrap .i64 (p.v.l - 1) = p.v.l - 1 := i64 (by omega) (by omega)
  let X4 := H3.set H.next (.row (rowP p.v.f p.v.t p.v.n (p.v.l - 1) p.pa p.v.path.length p.pk p.da p.v.data.length p.dk) true)
  have w4 : stc H3 H.next 3 [.int .i64 (IntKind.wrap .i64 (p.v.l - 1))] = some X4 := by rw [ew]; exact rstc' gp3 (i := 3) (by simp) _
  have g4 : X4.get H.next = .row (rowP p.v.f p.v.t p.v.n (p.v.l - 1) p.pa p.v.path.length p.pk p.da p.v.data.length p.dk) true := by simp [X4]
  have gz4 : X4.get H1.next = .row pk0.cells true := by
    show (H3.set _ _).get _ = _
    rw [Heap.get_set_ne _ _ _ _ (by omega)]; exact gz3
  have k4 : Keep H.next H X4 := k3.trans (Keep.set _ (Nat.le_refl _))
  have hn4 : X4.next = H3.next := rfl
  have hp4 : Ints .i64 X4 p.pa p.v.path.length p.pk p.v.path := h.path.chg (k4.chg0 (S := fun _ => False)) fun _ _ h => h
  obtain ⟨a5, k5, H5, c5, o5, kp5⟩ := OwnI.app (K := .i64) (base := X4.next) 8 OwnI.nil hp4 (Nat.le_refl _) (by omega) (by omega)
  simp only [Nat.zero_add, List.nil_append] at c5 o5
  have n5 := kp5.next
  have g5 : H5.get H.next = .row (rowP p.v.f p.v.t p.v.n (p.v.l - 1) p.pa p.v.path.length p.pk p.da p.v.data.length p.dk) true := by rw [kp5.get _ (by omega)]; exact g4
  have gz5 : H5.get H1.next = .row pk0.cells true := by rw [kp5.get _ (by omega)]; exact gz4
  have hd5 : Ints .u8 H5 p.da p.v.data.length p.dk p.v.data := h.data.chg ((k4.trans (kp5.weak (by omega))).chg0 (S := fun _ => False)) fun _ _ h => h
  obtain ⟨a7, k7, H6, c7, o7, kp7⟩ := OwnI.app (K := .u8) (base := H5.next) 1 OwnI.nil hd5 (Nat.le_refl _) (by omega) (by omega)
  simp only [Nat.zero_add, List.nil_append] at c7 o7
  have n6 := kp7.next
  have g6 : H6.get H.next = .row (rowP p.v.f p.v.t p.v.n (p.v.l - 1) p.pa p.v.path.length p.pk p.da p.v.data.length p.dk) true := by rw [kp7.get _ (by omega)]; exact g5
  have gz6 : H6.get H1.next = .row pk0.cells true := by rw [kp7.get _ (by omega)]; exact gz5
  let q : Pk := ⟨⟨p.v.f, p.v.t, p.v.n, p.v.l - 1, p.v.path, p.v.data⟩, a5, k5, a7, k7⟩
  have ow : PkOwn X4.next H6 q := ⟨o5.keep kp7, o7.weak n5, hps, hds, fun b h1 h2 => by have := (o5.lt h1).2; have := (o7.lt h2).1; omega⟩
  let X7 := H6.set H.next (.row (rowP p.v.f p.v.t p.v.n (p.v.l - 1) a5 p.v.path.length k5 p.da p.v.data.length p.dk) true)
  let X8 := X7.set H.next (.row q.cells true)
  let X9 := X8.set H1.next (.row q.cells true)
  have w7 : stc H6 H.next 4 [.slice a5 p.v.path.length k5] = some X7 := rstc' g6 (i := 4) (by simp) _
  have g7 : X7.get H.next = .row (rowP p.v.f p.v.t p.v.n (p.v.l - 1) a5 p.v.path.length k5 p.da p.v.data.length p.dk) true := by simp [X7]
  have w8 : stc X7 H.next 5 [.slice a7 p.v.data.length k7] = some X8 := rstc' g7 (i := 5) (by simp) _
  have g8 : X8.get H.next = .row q.cells true := by simp [X8]
  have gz8 : X8.get H1.next = .row pk0.cells true := by
    show ((H6.set _ _).set _ _).get _ = _
    rw [Heap.get_set_ne _ _ _ _ (by omega), Heap.get_set_ne _ _ _ _ (by omega)]; exact gz6
  have w9 : stc X8 H1.next 0 q.cells = some X9 := rstAll gz8 rfl
  have g9 : X9.get H1.next = .row q.cells true := by simp [X9]
  have gp9 : X9.get H.next = .row q.cells true := by
    show (X8.set _ _).get _ = _
    rw [Heap.get_set_ne _ _ _ _ (by omega)]; exact g8
  have o8 : PkOwn X4.next X8 q := (ow.set (by omega) _).set (by omega) _
  have o9 : PkOwn X4.next X9 q := o8.set (by omega) _
  obtain ⟨i, hix⟩ : ∃ i : Nat, ix p.v.path me = (i : Int) := ⟨(ix p.v.path me).toNat, by omega⟩
  have hx := getD_some (xs := p.v.path) (j := i + 1) (by omega)
  obtain ⟨b, o, hbo⟩ := o8.path.sl.at (by show 0 < p.v.path.length; omega)
  have hbo : a5 = some ⟨b, o, none⟩ := hbo
  have s8 : Ints .i64 X8 a5 p.v.path.length k5 p.v.path := o8.path.sl
  have s9 : Ints .i64 X9 a5 p.v.path.length k5 p.v.path := o9.path.sl
  rw [hbo] at s8 s9
  have l8 := Ints.get s8 hx
  have l9 := Ints.get s9 hx
  have e1 : IntKind.wrap .i64 (ix p.v.path me + 1) = ((i + 1 : Nat) : Int) := by rw [i64 (by omega) (by omega), hix]; omega
  refine ⟨q, X9, go2 _ ?_, rfl, o9.ok, (((((k4.trans (kp5.weak (by omega))).trans (kp7.weak (by omega))).trans (Keep.set _ (Nat.le_refl _))).trans (Keep.set _ (Nat.le_refl _))).trans (Keep.set _ (by omega)))⟩
  rw [decide_eq_false hi]
  refine L1_step ?_
  rw [if_neg (by simp), e1]
  refine ⟨_, rldc' gp3 3, X4, w4, _, _, _, rldc' g4 4, _, _, _, _, c5, _, _, _, rldc' g4 5, _, _, _, _, c7, X7, w7, X8, w8, rldc' g5 5, _, _, _, _, _, _, _, _, _, _, rldAll g8, _, _, _, rldc' g8 4, b, o, hbo, by omega, by show ((i + 1 : Nat) : Int) < (p.v.path.length : Int); omega, _, l8, X9, w9, rldc' gp9 4, l9, _, _, _, _, _, _, _, _, _, _, rldAll g9, ?_⟩
  rw [hix, show ((i : Int) + 1).toNat = i + 1 by omega]
end F47
namespace F45
theorem l0 {G : Heap} {p : Pk} {P : Nat} (hp : PkOk G p) (hm : mayP p.v) (bd : IsB p.v.data) (hP : P < G.next) (gP : G.get P = .row p.cells true) : ∀ (rest : List Int) (j : Nat) (xs : List Int) (a : Option Addr) (k : Nat) (H : Heap), p.v.path.drop j = rest → j + rest.length = p.v.path.length → Keep G.next G H → OwnI .u8 G.next H a xs.length k xs → xs.length ≤ 100 + j →
    ∃ a' k' H', L0 P 0 a xs.length k p.pa p.v.path.length p.pk (p.v.path.length : Int) (j : Int) H (.tuple #[.slice a' (xs ++ rest ++ [(p.v.data.length : Int)] ++ p.v.data).length k', .int .i64 0], H') ∧ OwnI .u8 G.next H' a' (xs ++ rest ++ [(p.v.data.length : Int)] ++ p.v.data).length k' (xs ++ rest ++ [(p.v.data.length : Int)] ++ p.v.data) ∧ Keep G.next G H' := by
  obtain ⟨_, _, _, _, _, hpp, hdd⟩ := hm
  have h16 := hpp.2.2
  intro rest
  induction rest with
  | nil =>
    intro j xs a k H hd hj hk ho hx
    simp only [List.length_nil] at hj
    have hkn := hk.next
    have g1 : H.get P = .row p.cells true := by rw [hk.get _ hP]; exact gP
    obtain ⟨H3, e3, n3, g3, k3⟩ := one H [.int .u8 (IntKind.wrap .u8 ((p.v.data.length : Nat) : Int))]
    have g13 : H3.get P = .row p.cells true := by rw [k3.get _ (by omega)]; exact g1
    obtain ⟨H4, e4, n4, g4, k4⟩ := one H3 [.slice a xs.length k, .slice (some ⟨H.next, 0, none⟩) 1 (UNK 1), .slice p.da p.v.data.length p.dk]
    have k34 : Keep H.next H H4 := k3.trans (k4.weak (by omega))
    have s4 : Sl H4 1 (some ⟨H3.next, 0, none⟩) 3 (UNK 1) ([⟨a, xs.length, k, xs⟩, ⟨some ⟨H.next, 0, none⟩, 1, UNK 1, [(p.v.data.length : Int)]⟩, ⟨p.da, p.v.data.length, p.dk, p.v.data⟩].map Bs.cell) := Sl.ofRow g4 (by omega)
    have hwb : IntKind.wrap .u8 ((p.v.data.length : Nat) : Int) = (p.v.data.length : Int) := wrap8_id (by omega)
    have sb : By H4 (some ⟨H.next, 0, none⟩) 1 (UNK 1) [(p.v.data.length : Int)] := by
      have : Ints .u8 H3 (some ⟨H.next, 0, none⟩) 1 (UNK 1) [(p.v.data.length : Int)] := by
        have := Sl.ofRow g3 (by omega)
        rw [hwb] at this; exact this
      exact this.keep k4
    obtain ⟨a', k', H', c, o, kk⟩ := F70.ok s4 (l := [⟨a, xs.length, k, xs⟩, ⟨some ⟨H.next, 0, none⟩, 1, UNK 1, [(p.v.data.length : Int)]⟩, ⟨p.da, p.v.data.length, p.dk, p.v.data⟩]) (fun b hb => by
      simp only [List.mem_cons, List.not_mem_nil, or_false] at hb
      rcases hb with rfl | rfl | rfl
      · exact ho.sl.keep k34
      · exact sb
      · exact (hp.data.keep hk).keep k34) (by omega) (fun b hb => by
      simp only [List.mem_cons, List.not_mem_nil, or_false] at hb
      rcases hb with rfl | rfl | rfl <;> simp <;> omega)
    have e : ([⟨a, xs.length, k, xs⟩, ⟨some ⟨H.next, 0, none⟩, 1, UNK 1, [(p.v.data.length : Int)]⟩, ⟨p.da, p.v.data.length, p.dk, p.v.data⟩] : List Bs).flatMap Bs.xs = xs ++ [] ++ [(p.v.data.length : Int)] ++ p.v.data := by simp
    rw [e] at c o
    refine ⟨a', k', H', L0_step ?_, o.weak (by omega), (hk.trans (k34.weak hkn)).trans (kk.weak (by omega))⟩
    rw [if_neg (by omega)]
    exact ⟨_, _, _, rldc' g1 5, H3, e3, _, _, _, rldc' g13 5, H4, e4, _, _, _, _, c, rfl⟩
  | cons x rest ih =>
    intro j xs a k H hd hj hk ho hx
    simp only [List.length_cons] at hj
    have hx1 := drop_get hd
    have s := hp.path.keep hk
    obtain ⟨b, o, hb⟩ := s.at (by omega)
    rw [hb] at s
    have hxn := hpp.1 x (List.mem_of_getElem? hx1)
    have hwb : IntKind.wrap .u8 x = x := wrap8_id (node_byte hxn)
    obtain ⟨H1, e1, n1, g1, k1⟩ := one H [.int .u8 (IntKind.wrap .u8 x)]
    have s1 : Ints .u8 H1 (some ⟨H.next, 0, none⟩) 1 (UNK 1) [x] := by
      have := Sl.ofRow g1 (by omega)
      rw [hwb] at this; exact this
    have hkn := hk.next
    obtain ⟨a2, k2, H2, c2, o2, kp2⟩ := OwnI.app 1 (ho.keep k1) s1 (by omega) (by omega) (by omega)
    rw [show xs.length + 1 = (xs ++ [x]).length by simp] at c2 o2
    obtain ⟨a', k', H', z, o', k''⟩ := ih (j + 1) (xs ++ [x]) a2 k2 H2 (drop_next hd) (by omega) ((hk.trans (k1.weak hkn)).trans kp2) o2 (by simp; omega)
    rw [show xs ++ [x] ++ rest = xs ++ x :: rest by simp] at z o'
    refine ⟨a', k', H', L0_step ?_, o', k''⟩
    rw [if_pos (by omega)]
    refine ⟨b, o, hb, by omega, by omega, x, Ints.get s hx1, H1, e1, _, _, _, _, c2, ?_⟩
    rw [i64 (by omega) (by omega), ← hb]
    exact_mod_cast z
theorem ok {H : Heap} {p : Pk} (hp : PkOk H p) (hb : IsB p.v.data) : ∃ a' k' H', Cr 45 [p.agg] H = some (.tuple #[.slice a' (if mayP p.v then encV p.v else []).length k', .int .i64 (if mayP p.v then 0 else 1)], H') ∧ OwnI .u8 H.next H' a' (if mayP p.v then encV p.v else []).length k' (if mayP p.v then encV p.v else []) ∧ Keep H.next H H' := by
  obtain ⟨H1, e1, n1, g1, k1⟩ := one H p.cells
  have h1 := hp.keep k1
  obtain ⟨H2, c2, p2⟩ := F48.ok h1
  have hn2 := p2.next
  have k2 : Keep H.next H H2 := k1.trans (p2.weak (by omega))
  by_cases hm : mayP p.v
  · rw [if_pos hm, if_pos hm]
    have h2 := h1.keep p2
    have g2 : H2.get H.next = .row p.cells true := by rw [p2.get _ (by omega)]; exact g1
    generalize hR : reserve H2 22 = R at *
    have kR : Keep H2.next H2 R := by rw [← hR]; exact Keep.reserve H2 22
    have nR : R.next = H2.next + 22 := by rw [← hR, next_reserve]
    have gR : R.get H.next = .row p.cells true := by rw [kR.get _ (by omega)]; exact g2
    obtain ⟨a4, k4, H4, c4, o4, p4⟩ := F71.be p.v.n (n := 6) (by omega) R
    have n4 := p4.next
    have g4 : H4.get H.next = .row p.cells true := by rw [p4.get _ (by omega)]; exact gR
    obtain ⟨m1, m2, m3, m4, m5, m6, m7⟩ := id hm
    have hw1 : IntKind.wrap .u8 p.v.f = p.v.f := wrap8_id (node_byte m1)
    have hw2 : IntKind.wrap .u8 p.v.t = p.v.t := wrap8_id (node_byte m2)
    have hw3 : IntKind.wrap .u8 p.v.l = p.v.l := wrap8_id (by omega)
    have hw4 : IntKind.wrap .u8 ((p.v.path.length : Nat) : Int) = (p.v.path.length : Int) := wrap8_id (by have := m6.2.2; omega)
    let Y1 := H4.set (H2.next + 6) (.row [.int .u8 (IntKind.wrap .u8 p.v.f), .int .u8 (IntKind.wrap .u8 p.v.t)] true)
    let Y2 := Y1.set (H2.next + 18) (.row [.int .u8 (IntKind.wrap .u8 p.v.l), .int .u8 (IntKind.wrap .u8 ((p.v.path.length : Nat) : Int))] true)
    have ky : Keep H2.next H4 Y2 := (Keep.set _ (by omega)).trans (Keep.set _ (by omega))
    have gy1 : Y2.get (H2.next + 6) = .row [.int .u8 (IntKind.wrap .u8 p.v.f), .int .u8 (IntKind.wrap .u8 p.v.t)] true := by
      show (Y1.set _ _).get _ = _
      rw [Heap.get_set_ne _ _ _ _ (by omega)]; simp [Y1]
    have gy2 : Y2.get (H2.next + 18) = .row [.int .u8 (IntKind.wrap .u8 p.v.l), .int .u8 (IntKind.wrap .u8 ((p.v.path.length : Nat) : Int))] true := by simp [Y2]
    have ny : Y2.next = H4.next := rfl
    obtain ⟨H6, e6, n6, g6, k6⟩ := one Y2 [.slice (some ⟨(H2.next + 6), 0, none⟩) 2 (UNK 1), .slice a4 6 k4, .slice (some ⟨(H2.next + 18), 0, none⟩) 2 (UNK 1)]
    have sy1 : By Y2 (some ⟨H2.next + 6, 0, none⟩) 2 (UNK 1) [p.v.f, p.v.t] := by
      have := Sl.ofRow gy1 (by omega)
      rw [hw1, hw2] at this; exact this
    have sy2 : By Y2 (some ⟨H2.next + 18, 0, none⟩) 2 (UNK 1) [p.v.l, (p.v.path.length : Int)] := by
      have := Sl.ofRow gy2 (by omega)
      rw [hw3, hw4] at this; exact this
    have s4 : By Y2 a4 6 k4 (beB p.v.n 6) := by
      have : By H4 a4 6 k4 (beB p.v.n 6) := o4.sl
      refine (this.chg (S := fun b => b = H2.next + 6) (Chg.set (S := fun b => b = H2.next + 6) _ rfl) fun b hb h => ?_).chg (S := fun b => b = H2.next + 18) (Chg.set (S := fun b => b = H2.next + 18) _ rfl) fun b hb h => ?_
      · have := (o4.lt hb).1; omega
      · have := (o4.lt hb).1; omega
    have s6 : Sl H6 1 (some ⟨Y2.next, 0, none⟩) 3 (UNK 1) ([⟨some ⟨H2.next + 6, 0, none⟩, 2, UNK 1, [p.v.f, p.v.t]⟩, ⟨a4, 6, k4, beB p.v.n 6⟩, ⟨some ⟨H2.next + 18, 0, none⟩, 2, UNK 1, [p.v.l, (p.v.path.length : Int)]⟩].map Bs.cell) := Sl.ofRow g6 (by omega)
    obtain ⟨a7, k7, H7, c7, o7, p7⟩ := F70.ok s6 (l := [⟨some ⟨H2.next + 6, 0, none⟩, 2, UNK 1, [p.v.f, p.v.t]⟩, ⟨a4, 6, k4, beB p.v.n 6⟩, ⟨some ⟨H2.next + 18, 0, none⟩, 2, UNK 1, [p.v.l, (p.v.path.length : Int)]⟩]) (fun b hb => by
      simp only [List.mem_cons, List.not_mem_nil, or_false] at hb
      rcases hb with rfl | rfl | rfl
      · exact sy1.keep k6
      · exact s4.keep k6
      · exact sy2.keep k6) (by omega) (fun b hb => by
      simp only [List.mem_cons, List.not_mem_nil, or_false] at hb
      rcases hb with rfl | rfl | rfl <;> simp)
    have ex : ([⟨some ⟨H2.next + 6, 0, none⟩, 2, UNK 1, [p.v.f, p.v.t]⟩, ⟨a4, 6, k4, beB p.v.n 6⟩, ⟨some ⟨H2.next + 18, 0, none⟩, 2, UNK 1, [p.v.l, (p.v.path.length : Int)]⟩] : List Bs).flatMap Bs.xs = [p.v.f, p.v.t] ++ beB p.v.n 6 ++ [p.v.l, (p.v.path.length : Int)] := by simp
    rw [ex] at c7 o7
    have k27 : Keep H2.next H2 H7 := (((kR.trans (p4.weak (by omega))).trans ky).trans (k6.weak (by omega))).trans (p7.weak (by omega))
    have g7 : H7.get H.next = .row p.cells true := by rw [k27.get _ (by omega)]; exact g2
    obtain ⟨a', k', H', z, o', k''⟩ := l0 (G := H2) h2 hm hb (P := H.next) (by omega) g2 p.v.path 0 ([p.v.f, p.v.t] ++ beB p.v.n 6 ++ [p.v.l, (p.v.path.length : Int)]) a7 k7 H7 rfl (by omega) k27 (o7.weak (by omega)) (by simp [beB_len])
    have eE : [p.v.f, p.v.t] ++ beB p.v.n 6 ++ [p.v.l, (p.v.path.length : Int)] ++ p.v.path ++ [(p.v.data.length : Int)] ++ p.v.data = encV p.v := rfl
    rw [eE] at z o'
    refine ⟨a', k', H', call ⟨_, e1, _, _, _, _, _, _, _, _, _, _, rldAll g1, _, _, c2, ?_⟩, o'.weak (by omega), k2.trans (k''.weak (by omega))⟩
    rw [if_pos (by simpa using hm), hR]
    refine ⟨_, rldc' gR 0, _, rldc' gR 1, _, rldc' gR 2, _, _, _, _, c4, _, rldc' gR 3, _, _, _, rldc' gR 4, H6, e6, _, _, _, _, c7, rldc' g4 0, rldc' g4 1, rldc' g4 3, rldc' g4 4, _, _, _, rldc' g7 4, z⟩
  · rw [if_neg hm, if_neg hm]
    refine ⟨none, 0, H2, call ⟨_, e1, _, _, _, _, _, _, _, _, _, _, rldAll g1, _, _, c2, ?_⟩, OwnI.nil, k2⟩
    rw [if_neg (by simpa using hm)]
    rfl
end F45
end Go.X
