/- The reference's elements. -/
import Derived.Test.YtbfjajoekcbodaaXzEi
import Derived.Test.YtbfjajoekcbodaaXzTeR
set_option linter.unusedVariables false
set_option linter.unusedSimpArgs false
set_option maxRecDepth 20000
namespace Go.X
open Go Go.RowKit Go.Proofs
namespace F45
theorem l0 {H : Heap} {a0 a1 : Option Addr} {n k0 k1 : Nat} {xs ys : List Int} (h0 : Ints .i64 H a0 n k0 xs) (h1 : Ints .i64 H a1 n k1 ys) (hn : n ≤ 140737488355328) : ∀ (d j : Nat), j + d = n → L0 a0 n k0 a1 n k1 (n : Int) (j : Int) H (.bool (decide (xs.drop j = ys.drop j)), H) := by
  have hl := h0.ln
  have hl1 := h1.ln
  intro d
  induction d with
  | zero =>
    intro j hj
    refine L0_step ?_
    rw [if_neg (by omega), List.drop_eq_nil_of_le (by omega), List.drop_eq_nil_of_le (by omega)]
    rfl
  | succ d ih =>
    intro j hj
    obtain ⟨b0, o0, rfl⟩ := h0.at (by omega)
    obtain ⟨b1, o1, rfl⟩ := h1.at (by omega)
    have hx := getD_some (xs := xs) (j := j) (by omega)
    have hy := getD_some (xs := ys) (j := j) (by omega)
    refine L0_step ?_
    rw [if_pos (by omega)]
    refine ⟨b0, o0, rfl, by omega, by omega, _, Ints.get h0 hx, b1, o1, rfl, by omega, by omega, _, Ints.get h1 hy, ?_⟩
    have ed : ∀ zs : List Int, j < zs.length → zs.drop j = zs.getD j 0 :: zs.drop (j + 1) := fun zs hz => by rw [List.drop_eq_getElem_cons hz]; simp [List.getD, hz]
    rw [ed xs (by omega), ed ys (by omega)]
    by_cases e : xs.getD j 0 = ys.getD j 0
    · rw [if_pos e, i64 (by omega) (by omega), e]
      simp only [List.cons.injEq, true_and]
      exact_mod_cast ih (j + 1) (by omega)
    · rw [if_neg e]
      simp only [List.cons.injEq, e, false_and, decide_false]
theorem ok {H : Heap} {a0 a1 : Option Addr} {n m k0 k1 : Nat} {xs ys : List Int} (h0 : Ints .i64 H a0 n k0 xs) (h1 : Ints .i64 H a1 m k1 ys) (hn : n ≤ 140737488355328) : Ce 45 [.slice a0 n k0, .slice a1 m k1] H = some (.bool (decide (xs = ys)), H) := by
  have hl := h0.ln
  have hl1 := h1.ln
  refine call ?_
  by_cases e : n = m
  · subst e
    rw [if_pos rfl]
    simpa using l0 h0 h1 hn n 0 (by omega)
  · rw [if_neg (by omega), decide_eq_false fun h => e (by rw [← hl, ← hl1, h])]
end F45
namespace F19
theorem ok {H : Heap} {e f : Ie} (h : IeOk H e) (h2 : IeOk H f) : ∃ H', Ce 19 [e.agg, f.agg] H = some (.bool (decide (e.v = f.v)), H') ∧ Keep H.next H H' := by
  obtain ⟨H1, H2, e1, e2, n1, n2, g1, g2, g3, k1, k2⟩ := two H e.cells f.cells
  refine ⟨H2, call ⟨_, e1, _, e2, _, rldc' g2 0, _, rldc' g3 0, ?_⟩, k2⟩
  by_cases c1 : e.v.kd = f.v.kd
  · rw [if_pos c1]
    refine ⟨_, rldc' g2 1, _, rldc' g3 1, ?_⟩
    by_cases c2 : e.v.asn = f.v.asn
    · rw [if_pos c2]
      refine ⟨_, rldc' g2 2, _, rldc' g3 2, ?_⟩
      by_cases c3 : e.v.rk = f.v.rk
      · rw [if_pos c3]
        refine ⟨_, rldc' g2 3, _, rldc' g3 3, ?_⟩
        by_cases c4 : e.v.tk = f.v.tk
        · rw [if_pos c4]
          refine ⟨_, _, _, rldc' g2 4, _, _, _, rldc' g3 4, _, _, F45.ok (h.s.keep k2) (h2.s.keep k2) (by have := h.sm; omega), ?_⟩
          rw [show decide (e.v = f.v) = decide (e.v.l = f.v.l) from decide_eq_decide.2 ⟨fun h => by rw [h], fun h => (VE.ext_iff' _ _).2 ⟨c1, c2, c3, c4, h⟩⟩]
        · rw [if_neg c4, decide_eq_false fun h => c4 (by rw [h])]
      · rw [if_neg c3, decide_eq_false fun h => c3 (by rw [h])]
    · rw [if_neg c2, decide_eq_false fun h => c2 (by rw [h])]
  · rw [if_neg c1, decide_eq_false fun h => c1 (by rw [h])]
end F19
namespace F22
theorem l0 {G : Heap} {a : Option Addr} {n k p : Nat} {kd : Int} {l : List Ie} (hs : Ies G a n k l) (hn : n ≤ 3000000000000) (hl : ∀ e ∈ l, IeOk G e) : ∀ (rest : List Ie) (j : Nat) (H : Heap), l.drop j = rest → j + rest.length = n → Keep G.next G H → G.next ≤ p → p < H.next → H.get p = .row ie0.cells true →
    ∃ (e : Ie) (H' : Heap), L0 kd p 0 a n k (n : Int) (j : Int) H (.tuple #[e.agg, .bool (fstV kd (rest.map Ie.v)).isSome], H') ∧ Keep G.next G H' ∧ IeOk H' e ∧ e.v = (fstV kd (rest.map Ie.v)).getD ve0 := by
  intro rest
  induction rest with
  | nil =>
    intro j H hd hj hk hp hpH g
    simp only [List.length_nil] at hj
    obtain ⟨H2, s2, g2, c2, n2⟩ := rowAll (us := ie0.cells) g hpH rfl
    refine ⟨ie0, H2, L0_step ?_, hk.trans (c2.kp hk.next hp), IeOk.zero _, rfl⟩
    rw [if_neg (by omega)]
    exact ⟨H2, s2, _, _, _, _, _, _, _, rldAll g2, rfl⟩
  | cons e rest ih =>
    intro j H hd hj hk hp hpH g
    simp only [List.length_cons] at hj
    obtain ⟨b, o, rfl⟩ := hs.at (by omega)
    have hx := drop_get hd
    have ra := (hs.keep hk).recs Ie.z hx
    have he := (hl e (List.mem_of_getElem? hx)).keep hk
    obtain ⟨H2, s2, g2, k2, n2⟩ := scratchE (H := H) (e := e)
    have hk2 := hk.trans (k2.weak hk.next)
    have gp2 : H2.get p = .row ie0.cells true := by rw [k2.get _ hpH]; exact g
    by_cases h1 : e.v.kd = kd
    · obtain ⟨H5, s5, g5, c5, n5⟩ := rowAll (us := e.cells) gp2 (by omega) rfl
      have es : fstV kd ((e :: rest).map Ie.v) = some e.v := by rw [List.map_cons]; exact if_pos h1
      have kf := hk2.trans (c5.kp (by have := hk2.next; omega) hp)
      refine ⟨e, H5, L0_step ?_, kf, (hl e (List.mem_of_getElem? hx)).keep kf, ?_⟩
      · rw [if_pos (by omega)]
        refine ⟨b, o, rfl, by omega, by omega, _, _, _, _, _, _, _, ra, _, rfl, H2, s2, _, rldc' g2 0, ?_⟩
        rw [if_pos h1]
        refine ⟨_, _, _, _, _, _, _, rldAll g2, H5, s5, _, _, _, _, _, _, _, rldAll g5, ?_⟩
        rw [es]
        rfl
      · rw [es]; rfl
    · obtain ⟨e', H', z, k', h', hv⟩ := ih (j + 1) H2 (drop_next hd) (by omega) hk2 hp (by omega) gp2
      have es : fstV kd ((e :: rest).map Ie.v) = fstV kd (rest.map Ie.v) := by simp only [List.map_cons, fstV, h1, if_false]
      rw [es]
      refine ⟨e', H', L0_step ?_, k', h', hv⟩
      rw [if_pos (by omega)]
      refine ⟨b, o, rfl, by omega, by omega, _, _, _, _, _, _, _, ra, _, rfl, H2, s2, _, rldc' g2 0, ?_⟩
      rw [if_neg h1, i64 (by omega) (by omega)]
      exact_mod_cast z
theorem ok {H : Heap} {a : Option Addr} {n k : Nat} {l : List Ie} (hs : Ies H a n k l) (hn : n ≤ 3000000000000) (hl : ∀ e ∈ l, IeOk H e) (kd : Int) : ∃ (e : Ie) (H' : Heap), Ce 22 [.slice a n k, .int .i64 kd] H = some (.tuple #[e.agg, .bool (fstV kd (l.map Ie.v)).isSome], H') ∧ Keep H.next H H' ∧ IeOk H' e ∧ e.v = (fstV kd (l.map Ie.v)).getD ve0 := by
  have hc := hs.cnt Ie.z (by decide)
  obtain ⟨H1, e1, n1, g1, k1⟩ := one H ie0.cells
  obtain ⟨e', H', z, k', h', hv⟩ := l0 (p := H.next) (kd := kd) hs hn hl l 0 H1 rfl (by omega) k1 (Nat.le_refl _) (by omega) g1
  exact ⟨e', H', call ⟨_, e1, z⟩, k', h', hv⟩
end F22
namespace F44
theorem ok (x : Int) (H : Heap) : Ce 44 [.int .i64 x] H = some (.bool (decide (asnP x)), H) := by
  refine call ?_
  by_cases h : x ≥ 0
  · rw [if_pos h, show decide (x < 1099511627776) = decide (asnP x) from decide_eq_decide.2 ⟨fun h' => ⟨h, h'⟩, fun h' => h'.2⟩]
  · rw [if_neg h, decide_eq_false fun h' => h h'.1]
end F44
namespace F18
theorem l1 {H : Heap} {b : Nat} {e : Ie} (he : IeOk H e) (g : H.get b = .row e.cells true) (hk : e.v.kd = 3 ∨ e.v.kd = 4) : ∀ (rest : List Int) (j : Nat), e.v.l.drop j = rest → j + rest.length = e.n → (∀ x ∈ e.v.l.take j, byteP x) → L1 b 0 e.a e.n e.k (e.n : Int) (j : Int) H (.bool (decide (mayE e.v)), H) := by
  have hln := he.s.ln
  have hsm := he.sm
  intro rest
  induction rest with
  | nil =>
    intro j hd hj hb
    simp only [List.length_nil] at hj
    rw [List.take_of_length_le (by omega)] at hb
    refine L1_step ?_
    rw [if_neg (by omega)]
    refine ⟨_, _, _, rldc' g 4, ?_⟩
    by_cases c0 : (e.n : Int) ≤ 16
    · rw [if_pos c0]
      refine ⟨_, rldc' g 1, ?_⟩
      by_cases c1 : e.v.asn = 0
      · rw [if_pos c1]
        refine ⟨_, rldc' g 2, ?_⟩
        by_cases c2 : e.v.rk = 0
        · rw [if_pos c2]
          refine ⟨_, rldc' g 3, ?_⟩
          rw [show decide (mayE e.v) = (e.v.tk == 0) by
            rw [show (e.v.tk == 0) = decide (e.v.tk = 0) from rfl]
            exact decide_eq_decide.2 ⟨fun m => ((mayE_3 hk).1 m).2.2.2, fun m => (mayE_3 hk).2 ⟨⟨by omega, hb⟩, c1, c2, m⟩⟩]
        · rw [if_neg c2, decide_eq_false fun m => c2 ((mayE_3 hk).1 m).2.2.1]
      · rw [if_neg c1, decide_eq_false fun m => c1 ((mayE_3 hk).1 m).2.1]
    · rw [if_neg c0, decide_eq_false fun m => c0 (by have := ((mayE_3 hk).1 m).1.1; omega)]
  | cons x rest ih =>
    intro j hd hj hb
    simp only [List.length_cons] at hj
    have s := he.s
    obtain ⟨b', o', ha⟩ := s.at (by omega)
    rw [ha] at s
    have hx := drop_get hd
    by_cases c : byteP x
    · have z := ih (j + 1) (drop_next hd) (by omega) (by
        intro y hy
        rw [List.take_add_one, hx] at hy
        rcases List.mem_append.1 hy with hy | hy
        · exact hb y hy
        · simp at hy; subst hy; exact c)
      refine L1_step ?_
      rw [if_pos (by omega)]
      refine ⟨b', o', ha, by omega, by omega, x, Ints.get s hx, ?_⟩
      rw [if_neg (by have := c.1; omega)]
      refine L2_step ?_
      rw [if_neg (by have := c.2; simp; omega), i64 (by omega) (by omega), ← ha]
      exact_mod_cast z
    · refine L1_step ?_
      rw [if_pos (by omega)]
      refine ⟨b', o', ha, by omega, by omega, x, Ints.get s hx, ?_⟩
      have hno : decide (mayE e.v) = false := decide_eq_false fun m => c (((mayE_3 hk).1 m).1.2 x (List.mem_of_getElem? hx))
      rw [hno]
      by_cases c1 : x < 0
      · rw [if_pos c1]
        refine L2_step ?_
        rw [if_pos rfl]
      · rw [if_neg c1]
        refine L2_step ?_
        rw [if_pos (by unfold byteP at c; simp; omega)]
theorem ok {H : Heap} {e : Ie} (h : IeOk H e) : ∃ H', Ce 18 [e.agg] H = some (.bool (decide (mayE e.v)), H') ∧ Keep H.next H H' := by
  obtain ⟨H1, e1, n1, g1, k1⟩ := one H e.cells
  have h1 := h.keep k1
  have hln := h.s.ln
  have el : ((e.n : Int) == 0) = decide (e.v.l = []) := by
    rw [show ((e.n : Int) == 0) = decide ((e.n : Int) = 0) from rfl]
    refine decide_eq_decide.2 ⟨fun c => List.eq_nil_of_length_eq_zero (by omega), fun c => by rw [c] at hln; simp at hln; omega⟩
  refine ⟨H1, call ⟨_, e1, _, rldc' g1 0, ?_⟩, k1⟩
  by_cases c1 : e.v.kd = 1
  · rw [if_pos c1]
    refine ⟨_, rldc' g1 1, _, _, F44.ok _ _, ?_⟩
    by_cases d1 : asnP e.v.asn
    · rw [if_pos (by simpa using d1)]
      refine ⟨_, rldc' g1 2, ?_⟩
      by_cases d2 : e.v.rk ≥ 0
      · rw [if_pos d2]
        refine ⟨_, rldc' g1 2, ?_⟩
        by_cases d3 : e.v.rk ≤ 255
        · rw [if_pos d3]
          refine ⟨_, rldc' g1 3, ?_⟩
          by_cases d4 : e.v.tk = 0
          · rw [if_pos d4]
            refine ⟨_, _, _, rldc' g1 4, ?_⟩
            rw [el, show decide (mayE e.v) = decide (e.v.l = []) from decide_eq_decide.2 ⟨fun m => ((mayE_1 c1).1 m).2.2.2, fun m => (mayE_1 c1).2 ⟨d1, ⟨d2, d3⟩, d4, m⟩⟩]
          · rw [if_neg d4, decide_eq_false fun m => d4 ((mayE_1 c1).1 m).2.2.1]
        · rw [if_neg d3, decide_eq_false fun m => d3 ((mayE_1 c1).1 m).2.1.2]
      · rw [if_neg d2, decide_eq_false fun m => d2 ((mayE_1 c1).1 m).2.1.1]
    · rw [if_neg (by simpa using d1), decide_eq_false fun m => d1 ((mayE_1 c1).1 m).1]
  rw [if_neg c1]
  by_cases c2 : e.v.kd = 2
  · rw [if_pos c2]
    refine ⟨_, rldc' g1 3, ?_⟩
    by_cases d2 : e.v.tk ≥ -32768
    · rw [if_pos d2]
      refine ⟨_, rldc' g1 3, ?_⟩
      by_cases d3 : e.v.tk ≤ 32767
      · rw [if_pos d3]
        refine ⟨_, rldc' g1 1, ?_⟩
        by_cases d4 : e.v.asn = 0
        · rw [if_pos d4]
          refine ⟨_, rldc' g1 2, ?_⟩
          by_cases d5 : e.v.rk = 0
          · rw [if_pos d5]
            refine ⟨_, _, _, rldc' g1 4, ?_⟩
            rw [el, show decide (mayE e.v) = decide (e.v.l = []) from decide_eq_decide.2 ⟨fun m => ((mayE_2 c2).1 m).2.2.2, fun m => (mayE_2 c2).2 ⟨⟨d2, d3⟩, d4, d5, m⟩⟩]
          · rw [if_neg d5, decide_eq_false fun m => d5 ((mayE_2 c2).1 m).2.2.1]
        · rw [if_neg d4, decide_eq_false fun m => d4 ((mayE_2 c2).1 m).2.1]
      · rw [if_neg d3, decide_eq_false fun m => d3 ((mayE_2 c2).1 m).1.2]
    · rw [if_neg d2, decide_eq_false fun m => d2 ((mayE_2 c2).1 m).1.1]
  rw [if_neg c2]
  have fin : (e.v.kd = 3 ∨ e.v.kd = 4) → L0 H.next 0 true H1 (.bool (decide (mayE e.v)), H1) := fun hk => by
    refine L0_step ?_
    rw [if_pos rfl]
    exact ⟨_, _, _, rldc' g1 4, l1 h1 g1 hk e.v.l 0 rfl (by omega) (by simp)⟩
  by_cases c3 : e.v.kd = 3
  · rw [if_pos c3]
    have := fin (.inl c3)
    rwa [show (e.v.kd == 3) = true by simp [c3]]
  rw [if_neg c3]
  by_cases c4 : e.v.kd = 4
  · have := fin (.inr c4)
    rwa [show (e.v.kd == 4) = true by simp [c4]]
  · refine L0_step ?_
    rw [if_neg (by simpa using c4), decide_eq_false (mayE_0 c1 c2 (by omega))]
end F18
theorem tbits_seg {xs : List Int} {v : BitVec 64} {n k : Nat} (hx : tbits xs = seg v (8 * n) (8 * k)) (hk : k < n) : tbits (xs ++ [IntKind.wrap .u8 (nb (v >>> (8 * (n - 1 - k))))]) = seg v (8 * n) (8 * (k + 1)) := by
  rw [tbits_append, hx, tbits_one, ← seg_app v (left := 8 * n) (k := 8 * k) (w := 8 * (k + 1)) (by omega) (by omega) (by omega)]
  congr 1
  rw [show 8 * (k + 1) - 8 * k = 8 by omega]
  apply List.ext_getElem?
  intro i
  by_cases hi : i < 8
  · rw [seg_get _ hi, seg_get _ hi]
    congr 1
    have hb : 0 ≤ IntKind.wrap .u8 (nb (v >>> (8 * (n - 1 - k)))) ∧ IntKind.wrap .u8 (nb (v >>> (8 * (n - 1 - k)))) < 256 := by
      rw [wrap_nb (k := .u8) rfl]
      exact ⟨Int.natCast_nonneg _, by have := nb_lt (BitVec.ofInt 8 (nb (v >>> (8 * (n - 1 - k))))); exact_mod_cast this⟩
    have e8 : ∀ x : Int, BitVec.ofInt 8 (IntKind.wrap .u8 x) = BitVec.ofInt 8 x := fun x => by rw [wrap_nb (k := .u8) rfl]; exact ofInt_nb (n := 8) _
    rw [← byte_bit hb (by omega), e8]
    rw [show (nb (v >>> (8 * (n - 1 - k)))) = (((v >>> (8 * (n - 1 - k))).toNat : Nat) : Int) from rfl, BitVec.ofInt_natCast, BitVec.getLsbD_ofNat, decide_eq_true (by omega), Bool.true_and]
    show (v >>> (8 * (n - 1 - k))).getLsbD (8 - 1 - i) = _
    rw [BitVec.getLsbD_ushiftRight]
    congr 1
    omega
  · rw [List.getElem?_eq_none (by rw [seg_len]; omega), List.getElem?_eq_none (by rw [seg_len]; omega)]
theorem wrap8_b (x : Int) : 0 ≤ IntKind.wrap .u8 x ∧ IntKind.wrap .u8 x < 256 := by
  rw [wrap_nb (k := .u8) rfl]
  exact ⟨Int.natCast_nonneg _, by have := nb_lt (BitVec.ofInt 8 x); exact_mod_cast this⟩
theorem wrap8_id {x : Int} (h : 0 ≤ x ∧ x < 256) : IntKind.wrap .u8 x = x := by
  rw [wrap_nb (k := .u8) rfl]
  exact nb_ofInt (n := 8) h.1 (by have := h.2; exact_mod_cast this)
namespace F46
theorem l0 {base n : Nat} {v : BitVec 64} (hn : n ≤ 8) : ∀ (d k : Nat) (xs : List Int) (a : Option Addr) (c : Nat) (H : Heap), k + d = n → xs.length = k → IsB xs → tbits xs = seg v (8 * n) (8 * k) → OwnI .u8 base H a k c xs → base ≤ H.next →
    ∃ a' k' H', L0 (nb v) a k c ((d : Int) - 1) H (.slice a' (pack (bitsN v (8 * n))).length k', H') ∧ OwnI .u8 base H' a' (pack (bitsN v (8 * n))).length k' (pack (bitsN v (8 * n))) ∧ Keep base H H' := by
  intro d
  induction d with
  | zero =>
    intro k xs a c H hk hl hb hx ho hbase
    have : k = n := by omega
    subst this
    have hp : pack (bitsN v (8 * k)) = xs := by rw [show bitsN v (8 * k) = tbits xs from hx.symm, pack_tbits hb]
    rw [hp, hl]
    refine ⟨a, c, H, L0_step ?_, ho, Keep.refl _ _⟩
    rw [if_neg (by omega)]
  | succ d ih =>
    intro k xs a c H hk hl hb hx ho hbase
    have hd : n - 1 - k = d := by omega
    obtain ⟨H1, e1, m1, g1, k1⟩ := one H [.int .u8 (IntKind.wrap .u8 (nb (v >>> (8 * d))))]
    have s1 : Ints .u8 H1 (some ⟨H.next, 0, none⟩) 1 (UNK 1) [IntKind.wrap .u8 (nb (v >>> (8 * d)))] := Sl.ofRow g1 (by omega)
    obtain ⟨a2, k2, H2, c2, o2, kp2⟩ := OwnI.app 1 (ho.keep k1) s1 (by omega) (by omega) (by omega)
    have := tbits_seg hx (by omega)
    rw [hd] at this
    obtain ⟨a3, k3, H3, z, o3, kp3⟩ := ih (k + 1) _ a2 k2 H2 (by omega) (by simp [hl]) (isB_app hb (isB_cons (wrap8_b _) isB_nil)) this o2 (by have := kp2.next; omega)
    refine ⟨a3, k3, H3, L0_step ?_, o3, ((k1.weak hbase).trans kp2).trans kp3⟩
    have e8 : IntKind.wrap .u64 (IntKind.wrap .i64 (8 * (((d + 1 : Nat) : Int) - 1))) = ((8 * d : Nat) : Int) := by
      rw [i64 (by omega) (by omega), u64 (by omega) (by omega)]; omega
    have es : ishr .u64 (nb v) ((8 * d : Nat) : Int) = nb (v >>> (8 * d)) := ishr_nb (k := .u64) v (8 * d) (show 8 * d ≤ 64 by omega)
    rw [if_pos (by omega), e8, es, i64 (by omega) (by omega)]
    refine ⟨by omega, H1, e1, _, _, _, _, c2, ?_⟩
    rw [show (((d + 1 : Nat) : Int) - 1 - 1) = ((d : Int) - 1) by omega]
    exact z
theorem ok {v : BitVec 64} {n : Nat} (hn : n ≤ 8) (H : Heap) : ∃ a' k' H', Ce 46 [.int .u64 (nb v), .int .i64 (n : Int)] H = some (.slice a' (pack (bitsN v (8 * n))).length k', H') ∧ OwnI .u8 H.next H' a' (pack (bitsN v (8 * n))).length k' (pack (bitsN v (8 * n))) ∧ Keep H.next H H' := by
  obtain ⟨a', k', H', z, o, g⟩ := l0 (base := H.next) (v := v) hn n 0 [] none 0 H (by omega) rfl isB_nil rfl OwnI.nil (Nat.le_refl _)
  refine ⟨a', k', H', call ?_, o, g⟩
  rw [i64 (by omega) (by omega)]
  exact z
theorem be (x : Int) {n : Nat} (hn : n ≤ 8) (H : Heap) : ∃ a' k' H', Ce 46 [.int .u64 (IntKind.wrap .u64 x), .int .i64 (n : Int)] H = some (.slice a' n k', H') ∧ OwnI .u8 H.next H' a' n k' (beB x n) ∧ Keep H.next H H' := by
  obtain ⟨a', k', H', z, o, g⟩ := ok (v := BitVec.ofInt 64 x) hn H
  have hl : (pack (bitsN (BitVec.ofInt 64 x) (8 * n))).length = n := beB_len x n
  rw [hl] at z o
  exact ⟨a', k', H', by rw [nb_wrap]; exact z, o, g⟩
end F46
namespace F20
/-- What is still to come is put behind what is there. -/
def Goal (G : Heap) (xs : List Int) (rest : List Ie) (L : Value × Heap → Prop) : Prop :=
  ∃ a' k' H', L (.tuple #[.slice a' (if ∀ e ∈ rest, mayE e.v then xs ++ (rest.map Ie.v).flatMap encE else []).length k', .int .i64 (if ∀ e ∈ rest, mayE e.v then 0 else 1)], H') ∧ OwnI .u8 G.next H' a' (if ∀ e ∈ rest, mayE e.v then xs ++ (rest.map Ie.v).flatMap encE else []).length k' (if ∀ e ∈ rest, mayE e.v then xs ++ (rest.map Ie.v).flatMap encE else []) ∧ Keep G.next G H'
theorem l0 {G : Heap} {s : Option Addr} {sn sk : Nat} {l : List Ie} (hs : Ies G s sn sk l) (hl : ∀ e ∈ l, IeOk G e) (hn : sn ≤ 4) : ∀ (rest : List Ie) (j : Nat) (xs : List Int) (a : Option Addr) (k : Nat) (H : Heap), l.drop j = rest → j + rest.length = sn → Keep G.next G H → OwnI .u8 G.next H a xs.length k xs → xs.length + 100 * rest.length ≤ 1000 →
    Goal G xs rest (L0 a xs.length k s sn sk (sn : Int) (j : Int) H) := by
  intro rest
  induction rest with
  | nil =>
    intro j xs a k H hd hj hk ho hL
    simp only [List.length_nil] at hj
    unfold Goal
    rw [if_pos (by simp), if_pos (by simp), List.map_nil, List.flatMap_nil, List.append_nil]
    refine ⟨a, k, H, L0_step ?_, ho, hk⟩
    rw [if_neg (by omega)]
  | cons e rest ih =>
    intro j xs a k H hd hj hk ho hL
    simp only [List.length_cons] at hj hL
    have hx := drop_get hd
    have hmem := List.mem_of_getElem? hx
    obtain ⟨b, o, rfl⟩ := hs.at (by omega)
    have ra := (hs.keep hk).recs Ie.z hx
    obtain ⟨H2, s2, g2, k2, m2⟩ := scratchE (H := H) (e := e)
    have hk2 := hk.trans (k2.weak hk.next)
    obtain ⟨H3, c3, k3⟩ := F18.ok ((hl e hmem).keep hk2)
    have k03 := k2.trans (k3.weak k2.next)
    have hk3 := hk.trans (k03.weak hk.next)
    have g3 : H3.get H.next = .row e.cells true := by rw [k3.get _ (by omega)]; exact g2
    have n3 := k3.next
    have nG := hk.next
    by_cases hm : mayE e.v
    · -- what comes with the element's bytes
      have fin : ∀ (a7 : Option Addr) (k7 : Nat) (H7 : Heap) (ds : List Int), OwnI .u8 H3.next H7 a7 ds.length k7 ds → Keep H3.next H3 H7 → encE e.v = e.v.kd :: (ds.length : Int) :: ds → Goal G xs (e :: rest) (L1 a xs.length k H.next 0 a7 ds.length k7 b o sn sk (sn : Int) (j : Int) H7) := by
        intro a7 k7 H7 ds od kd7 he
        have g7 : H7.get H.next = .row e.cells true := by rw [kd7.get _ (by omega)]; exact g3
        obtain ⟨H8, e8, m8, g8, k8⟩ := one H7 [.int .u8 (IntKind.wrap .u8 e.v.kd), .int .u8 (IntKind.wrap .u8 ((ds.length : Nat) : Int))]
        have lenE := encE_len hm
        have hb := encE_isB hm
        rw [he] at hb lenE
        simp only [List.length_cons] at lenE
        have n7 := kd7.next
        have s8 : Ints .u8 H8 (some ⟨H7.next, 0, none⟩) 2 (UNK 1) [IntKind.wrap .u8 e.v.kd, IntKind.wrap .u8 ((ds.length : Nat) : Int)] := Sl.ofRow g8 (by omega)
        rw [wrap8_id (hb _ (by simp)), wrap8_id (hb _ (by simp))] at s8
        have o7 := (ho.keep k03).keep kd7
        have o8 := o7.keep k8
        obtain ⟨a9, k9, H9, c9, o9, kp9⟩ := OwnI.app 1 o8 s8 (by omega) (by omega) (by omega)
        have od8 := od.keep k8
        have od9 : Ints .u8 H9 a7 ds.length k7 ds := by
          have o10 : OwnI .u8 H3.next H8 a7 ds.length k7 ds := od8
          obtain ⟨a9', k9', H9', c9', o9', chg9, arr9⟩ := Own.append' (by_ := 1) o8 s8 (by decide) (by omega) (by omega) (by omega)
          rw [c9] at c9'
          simp only [Option.some.injEq, Prod.mk.injEq] at c9'
          obtain ⟨⟨rfl, _, rfl⟩, rfl⟩ := c9'
          exact o10.sl.chg chg9 fun b' hb' hc => by
            have h1 := (o10.lt hb').1
            have h2 := ((ho.keep k03).lt hc).2
            omega
        obtain ⟨a10, k10, H10, c10, o10, kp10⟩ := OwnI.app 1 o9 od9 (by have := kp9.next; omega) (by omega) (by omega)
        have kG10 := (((hk3.trans (kd7.weak (by omega))).trans (k8.weak (by omega))).trans kp9).trans kp10
        have ih2 := ih (j + 1) (xs ++ [e.v.kd, ((ds.length : Nat) : Int)] ++ ds) a10 k10 H10 (drop_next hd) (by omega) kG10 (by
          rw [List.length_append, List.length_append]; exact o10) (by simp; omega)
        unfold Goal at ih2 ⊢
        have ec : (∀ e' ∈ e :: rest, mayE e'.v) ↔ ∀ e' ∈ rest, mayE e'.v := by simp [hm]
        simp only [ec]
        have ex : xs ++ [e.v.kd, ((ds.length : Nat) : Int)] ++ ds ++ (rest.map Ie.v).flatMap encE = xs ++ ((e :: rest).map Ie.v).flatMap encE := by
          rw [List.map_cons, List.flatMap_cons, he]; simp
        rw [ex] at ih2
        obtain ⟨a', k', H', z, oz, kz⟩ := ih2
        refine ⟨a', k', H', L1_step ⟨_, rldc' g7 0, H8, e8, _, _, _, _, c9, _, _, _, _, c10, ?_⟩, oz, kz⟩
        rw [i64 (by omega) (by omega)]
        rw [List.length_append, List.length_append] at z
        exact_mod_cast z
      -- the three kinds
      have step : ∀ (L : Value × Heap → Prop), (∀ r, L r → L0 a xs.length k (some ⟨b, o, none⟩) sn sk (sn : Int) (j : Int) H r) → Goal G xs (e :: rest) L → Goal G xs (e :: rest) (L0 a xs.length k (some ⟨b, o, none⟩) sn sk (sn : Int) (j : Int) H) := by
        intro L hL ⟨a', k', H', z, oz, kz⟩
        exact ⟨a', k', H', hL _ z, oz, kz⟩
      rcases mayE_kd hm with ⟨h1, h2, h3⟩ | ⟨h1, h2⟩ | ⟨h1, h2⟩
      · have kr := Keep.reserve H3 10
        have gr : (reserve H3 10).get H.next = .row e.cells true := by rw [kr.get _ (by omega)]; exact g3
        have nr : (reserve H3 10).next = H3.next + 10 := next_reserve _ _
        obtain ⟨a4, k4, H4, c4, o4, kp4⟩ := F46.be e.v.asn (n := 5) (by omega) (reserve H3 10)
        have n4 := kp4.next
        have g4 : H4.get H.next = .row e.cells true := by rw [kp4.get _ (by omega)]; exact gr
        have c5 : Chg (fun b => b = H3.next + 7) H4 (H4.set (H3.next + 7) (.row [.int .u8 (IntKind.wrap .u8 e.v.rk)] true)) := chgSet' _
        generalize e5 : H4.set (H3.next + 7) (.row [.int .u8 (IntKind.wrap .u8 e.v.rk)] true) = H5 at c5
        have g5 : H5.get (H3.next + 7) = .row [.int .u8 (IntKind.wrap .u8 e.v.rk)] true := by rw [← e5]; simp
        have n5 : H5.next = H4.next := by rw [← e5]; simp
        have o5 := o4.chg c5 fun q hq h => by have := (o4.lt hq).1; have h : q = H3.next + 7 := h; omega
        have s5 : Ints .u8 H5 (some ⟨H3.next + 7, 0, none⟩) 1 (UNK 1) [IntKind.wrap .u8 e.v.rk] := Sl.ofRow g5 (by omega)
        rw [wrap8_id (byteP_b h3)] at s5
        obtain ⟨a6, k6, H6, c6, o6, kp6⟩ := OwnI.app 1 o5 s5 (by omega) (by omega) (by omega)
        have lb : (beB e.v.asn 5 ++ [e.v.rk]).length = 6 := by simp [beB_len]
        have k36 : Keep H3.next H3 H6 := ((kr.trans (kp4.weak (by omega))).trans (c5.kp (by omega) (by omega))).trans (kp6.weak (by omega))
        refine step _ ?_ (fin a6 k6 H6 (beB e.v.asn 5 ++ [e.v.rk]) (by rw [lb]; exact o6.weak (by omega)) k36 (by unfold encE putE; rw [if_pos h1, lb]; rfl))
        intro r z
        rw [lb] at z
        refine L0_step ?_
        rw [if_pos (by omega)]
        refine ⟨b, o, rfl, by omega, by omega, _, _, _, _, _, _, _, ra, _, rfl, H2, s2, _, _, _, _, _, _, _, rldAll g2, _, _, c3, ?_⟩
        rw [if_pos (by simpa using hm)]
        refine ⟨_, rldc' g3 0, ?_⟩
        rw [if_pos h1]
        refine ⟨_, rldc' gr 1, _, _, _, _, c4, _, rldc' gr 2, _, _, _, _, ?_, rldc' g4 2, z⟩
        rw [e5]; exact c6
      · obtain ⟨a4, k4, H4, c4, o4, kp4⟩ := F46.be e.v.tk (n := 2) (by omega) H3
        have lb : (beB e.v.tk 2).length = 2 := beB_len _ _
        refine step _ ?_ (fin a4 k4 H4 (beB e.v.tk 2) (by rw [lb]; exact o4) kp4 (by unfold encE putE; rw [if_neg (by omega), if_pos h1, lb]; rfl))
        intro r z
        rw [lb] at z
        refine L0_step ?_
        rw [if_pos (by omega)]
        refine ⟨b, o, rfl, by omega, by omega, _, _, _, _, _, _, _, ra, _, rfl, H2, s2, _, _, _, _, _, _, _, rldAll g2, _, _, c3, ?_⟩
        rw [if_pos (by simpa using hm)]
        refine ⟨_, rldc' g3 0, ?_⟩
        rw [if_neg (by omega), if_pos h1]
        exact ⟨_, rldc' g3 3, _, _, _, _, c4, z⟩
      · have hle := (hl e hmem).keep hk3
        have hln := hle.s.ln
        -- the list's bytes, made by the loop
        have mk : ∃ (a4 : Option Addr) (k4 : Nat) (H4 : Heap), OwnI .u8 H3.next H4 a4 e.n k4 e.v.l ∧ Keep H3.next H3 H4 ∧ ∀ r, L1 a xs.length k H.next 0 a4 e.n k4 b o sn sk (sn : Int) (j : Int) H4 r → L2 a xs.length k H.next 0 none 0 0 b o sn sk (sn : Int) (j : Int) e.a e.n e.k (e.n : Int) 0 H3 r := by
          have key : ∀ (rest' : List Int) (i : Nat) (a' : Option Addr) (k' : Nat) (H' : Heap), e.v.l.drop i = rest' → i + rest'.length = e.n → OwnI .u8 H3.next H' a' i k' (e.v.l.take i) → Keep H3.next H3 H' → ∃ (a4 : Option Addr) (k4 : Nat) (H4 : Heap), OwnI .u8 H3.next H4 a4 e.n k4 e.v.l ∧ Keep H3.next H3 H4 ∧ ∀ r, L1 a xs.length k H.next 0 a4 e.n k4 b o sn sk (sn : Int) (j : Int) H4 r → L2 a xs.length k H.next 0 a' i k' b o sn sk (sn : Int) (j : Int) e.a e.n e.k (e.n : Int) (i : Int) H' r := by
            intro rest'
            induction rest' with
            | nil =>
              intro i a' k' H' hd' hj' ho' kk
              simp only [List.length_nil] at hj'
              have : i = e.n := by omega
              subst this
              rw [List.take_of_length_le (by omega)] at ho'
              refine ⟨a', k', H', ho', kk, fun r z => L2_step ?_⟩
              rw [if_neg (by omega)]; exact z
            | cons x rest' ih' =>
              intro i a' k' H' hd' hj' ho' kk
              simp only [List.length_cons] at hj'
              have hx' := drop_get hd'
              have s := hle.s.keep kk
              obtain ⟨b2, o2, ha2⟩ := s.at (by omega)
              obtain ⟨H1', e1', m1', g1', k1'⟩ := one H' [.int .u8 (IntKind.wrap .u8 x)]
              have s1' : Ints .u8 H1' (some ⟨H'.next, 0, none⟩) 1 (UNK 1) [IntKind.wrap .u8 x] := Sl.ofRow g1' (by omega)
              have nk := kk.next
              have h216 := h2.1
              obtain ⟨a2', k2', H2', c2', o2', kp2'⟩ := OwnI.app 1 (ho'.keep k1') s1' (by omega) (by omega) (by omega)
              rw [wrap8_id (byteP_b (h2.2 x (List.mem_of_getElem? hx')))] at o2'
              have et : e.v.l.take i ++ [x] = e.v.l.take (i + 1) := by rw [List.take_add_one, hx']; rfl
              rw [et] at o2'
              obtain ⟨a4, k4, H4, o4, kk4, zz⟩ := ih' (i + 1) a2' k2' H2' (drop_next hd') (by omega) o2' ((kk.trans (k1'.weak nk)).trans kp2')
              refine ⟨a4, k4, H4, o4, kk4, fun r z => L2_step ?_⟩
              rw [if_pos (by omega)]
              rw [ha2] at s
              refine ⟨b2, o2, ha2, by omega, by omega, x, Ints.get s hx', H1', e1', _, _, _, _, c2', ?_⟩
              rw [i64 (by omega) (by omega), ← ha2]
              exact_mod_cast zz r z
          exact key e.v.l 0 none 0 H3 rfl (by omega) OwnI.nil (Keep.refl _ _)
        obtain ⟨a4, k4, H4, o4, kk4, zz⟩ := mk
        rw [← hln] at o4 zz
        refine step _ ?_ (fin a4 k4 H4 e.v.l o4 kk4 (by unfold encE putE; rw [if_neg (by omega), if_neg (by omega)]))
        intro r z
        refine L0_step ?_
        rw [if_pos (by omega)]
        refine ⟨b, o, rfl, by omega, by omega, _, _, _, _, _, _, _, ra, _, rfl, H2, s2, _, _, _, _, _, _, _, rldAll g2, _, _, c3, ?_⟩
        rw [if_pos (by simpa using hm)]
        refine ⟨_, rldc' g3 0, ?_⟩
        rw [if_neg (by omega), if_neg (by omega)]
        refine ⟨_, _, _, rldc' g3 4, ?_⟩
        have := zz r z
        rw [hln] at this
        exact this
    · unfold Goal
      have hno : ¬∀ e' ∈ e :: rest, mayE e'.v := fun c => hm (c e (by simp))
      rw [if_neg hno, if_neg hno]
      refine ⟨none, 0, H3, L0_step ?_, OwnI.nil, hk3⟩
      rw [if_pos (by omega)]
      refine ⟨b, o, rfl, by omega, by omega, _, _, _, _, _, _, _, ra, _, rfl, H2, s2, _, _, _, _, _, _, _, rldAll g2, _, _, c3, ?_⟩
      rw [if_neg (by simpa using hm)]; rfl
theorem ok {H : Heap} {a : Option Addr} {n k : Nat} {l : List Ie} (hs : Ies H a n k l) (hl : ∀ e ∈ l, IeOk H e) : ∃ a' k' H', Ce 20 [.slice a n k] H = some (.tuple #[.slice a' (encO (l.map Ie.v)).length k', .int .i64 (if okL (l.map Ie.v) then 0 else 1)], H') ∧ OwnI .u8 H.next H' a' (encO (l.map Ie.v)).length k' (encO (l.map Ie.v)) ∧ Keep H.next H H' := by
  have hc := hs.cnt Ie.z (by decide)
  by_cases h4 : (n : Int) > 4
  · have hno : ¬okL (l.map Ie.v) := fun c => by have := c.1; simp at this; omega
    unfold encO
    rw [if_neg hno, if_neg hno]
    refine ⟨none, 0, H, call ?_, OwnI.nil, Keep.refl _ _⟩
    rw [if_pos h4]; rfl
  · have k1 := Keep.push (H := H) (.row [.int .u8 (IntKind.wrap .u8 (n : Int))] true) (Nat.le_refl H.next)
    have o1 := OwnI.new (K := .u8) H [IntKind.wrap .u8 (n : Int)]
    obtain ⟨a', k', H', z, o, kp⟩ := l0 hs hl (by omega) l 0 [IntKind.wrap .u8 (n : Int)] _ _ _ rfl (by omega) k1 o1 (by simp; omega)
    have hw : IntKind.wrap .u8 (n : Int) = (n : Int) := wrap8_id (by omega)
    have eo : (if ∀ e ∈ l, mayE e.v then [IntKind.wrap .u8 (n : Int)] ++ (l.map Ie.v).flatMap encE else []) = encO (l.map Ie.v) := by
      unfold encO encL
      by_cases hm : ∀ e ∈ l, mayE e.v
      · rw [if_pos hm, if_pos ⟨by simp; omega, fun v hv => by obtain ⟨e, he, rfl⟩ := List.mem_map.1 hv; exact hm e he⟩, hw, List.length_map, hc]; rfl
      · rw [if_neg hm, if_neg fun c => hm fun e he => c.2 _ (List.mem_map.2 ⟨e, he, rfl⟩)]
    have ee : (if ∀ e ∈ l, mayE e.v then (0 : Int) else 1) = if okL (l.map Ie.v) then 0 else 1 := by
      by_cases hm : ∀ e ∈ l, mayE e.v
      · rw [if_pos hm, if_pos ⟨by simp; omega, fun v hv => by obtain ⟨e, he, rfl⟩ := List.mem_map.1 hv; exact hm e he⟩]
      · rw [if_neg hm, if_neg fun c => hm fun e he => c.2 _ (List.mem_map.2 ⟨e, he, rfl⟩)]
    rw [eo, ee] at z
    rw [eo] at o
    refine ⟨a', k', H', call ?_, o, kp⟩
    rw [if_neg h4]
    exact ⟨_, rfl, by exact_mod_cast z⟩
end F20
end Go.X
