/- The laws of bits: none; cuts; too few. -/
import Derived.Test.YtdnokmjobpbhhaaXzLc3
set_option linter.unusedVariables false
set_option linter.unusedSimpArgs false
set_option maxRecDepth 20000
namespace Go.X
open Go Go.RowKit Go.Proofs
structure Fld where
  v : Int
  w : Int
  texts : Bool
  evens : Bool
  a : Option Addr
  n : Nat
  k : Nat
  bs : List Int
def Fld.cells (f : Fld) : List Value := [.int .u64 f.v, .int .i64 f.w, .bool f.texts, .bool f.evens, .slice f.a f.n f.k]
theorem Fld.z (f : Fld) : f.cells.length = 5 := rfl
abbrev TFld : Ty := .strct (.pair (.int .u64) (.pair (.int .i64) (.pair .bool (.pair .bool (.pair (.slice (.int .u8) 1) .unit)))))
structure FldOk (H : Heap) (f : Fld) : Prop where
  v : f.v = nb (BitVec.ofInt 64 f.v)
  s : By H f.a f.n f.k f.bs
  b : IsB f.bs
  small : f.n ≤ 140737488355328
theorem u64_wf {x : Int} (h : (Lit.int .u64 x).wf = true) : x = nb (BitVec.ofInt 64 x) := by
  simp only [Lit.wf, Bool.and_eq_true, decide_eq_true_eq, IntKind.min, IntKind.max, IntKind.signed, IntKind.bits] at h
  simp at h
  exact (nb_ofInt (n := 64) (by omega) (by omega)).symm
theorem fldOf {H : Heap} {vs : List Value} (h : Holds H TFld vs) : ∃ f : Fld, vs = f.cells ∧ FldOk H f := by
  obtain ⟨_, _, rfl, ⟨a, rfl, ha⟩, _, _, rfl, ⟨b, rfl, _⟩, _, _, rfl, ⟨c, rfl⟩, _, _, rfl, ⟨d, rfl⟩, _, _, rfl, hs, rfl⟩ := h
  obtain ⟨x, n, k, xs, rfl, s, l, w⟩ := hs.ints
  exact ⟨⟨a, b, c, d, x, n, k, xs⟩, rfl, ⟨u64_wf ha, s, IsB.of w, show n ≤ 140737488355328 by omega⟩⟩
namespace F9
theorem ok {H : Heap} {f : Fld} (h : FldOk H f) : ∃ H', Cc 9 [.agg #[.int .u64 f.v, .int .i64 f.w, .bool f.texts, .bool f.evens, .slice f.a f.n f.k]] H = some (.bool true, H') := by
  generalize e : H.push (.row [.int .u64 f.v, .int .i64 f.w, .bool f.texts, .bool f.evens, .slice f.a f.n f.k] true) = H1
  have g : H1.get H.next = .row [.int .u64 f.v, .int .i64 f.w, .bool f.texts, .bool f.evens, .slice f.a f.n f.k] true := by rw [← e]; simp
  have kp : Keep H.next H H1 := by rw [← e]; exact Keep.push _ (Nat.le_refl _)
  obtain ⟨H', c1, _⟩ := F19.ok H1
  refine ⟨H', call ⟨H1, e.symm, _, rldc g 0, _, rldc g 1, _, F14.nil, _, _, _, rldc g 4, _, F39.nil (h.s.keep kp) h.small, _, F40.nil, _, F33.nil, _, _, F15.nil, ?_⟩⟩
  rw [if_pos rfl]
  refine ⟨_, _, _, _, F16.nil, ?_⟩
  rw [if_pos (by simp)]
  refine ⟨_, rldc g 1, _, _, F18.nil _, ?_⟩
  rw [if_pos rfl]
  refine ⟨_, rldc g 1, _, _, _, _, F31.nil _, ?_⟩
  rw [if_pos (by simp)]
  refine ⟨_, _, F36.nil, ?_⟩
  rw [if_pos rfl]
  refine ⟨_, _, F37.nil, ?_⟩
  rw [if_pos rfl]
  exact ⟨_, _, c1, rfl⟩
end F9
/-- Two writers, apart. -/
structure W2 (H : Heap) (p q : Nat) (L M : List Bool) (a : Option Addr) (n k : Nat) (b : Option Addr) (m j : Nat) : Prop where
  l : WR H p L a n k
  r : WR H q M b m j
  apart : ∀ x, (x = p ∨ In1 a x) → ¬(x = q ∨ In1 b x)
theorem W2.symm {H : Heap} {p q : Nat} {L M : List Bool} {a : Option Addr} {n k : Nat} {b : Option Addr} {m j : Nat} (h : W2 H p q L M a n k b m j) : W2 H q p M L b m j a n k := ⟨h.r, h.l, fun x hx hy => h.apart x hy hx⟩
theorem W2.left {H H' : Heap} {p q : Nat} {L L' M : List Bool} {a a' : Option Addr} {n k n' k' : Nat} {b : Option Addr} {m j : Nat} (h : W2 H p q L M a n k b m j) (w : WR H' p L' a' n' k') (f : Ft p a a' H H') : W2 H' p q L' M a' n' k' b m j := by
  refine ⟨w, h.r.chg f.chg (fun e => h.apart q e (.inl rfl)) (fun c hc e => h.apart c e (.inr hc)), fun x hx hy => ?_⟩
  rcases hx with e | e
  · exact h.apart x (.inl e) hy
  · rcases f.arr x e with e | e
    · exact h.apart x (.inr e) hy
    · rcases hy with hy | hy
      · have := h.r.lt; omega
      · have := h.r.own.lt hy; omega
theorem mask64_int : ∀ k : _root_.Fin 65, IntKind.wrap .u64 ((ishl .u64 1 (k.val : Int)) - 1) = nb ((1#64 <<< k.val) - 1#64) := by decide +kernel
theorem mask64_get : ∀ (k : _root_.Fin 65) (i : _root_.Fin 64), ((1#64 <<< k.val) - 1#64).getLsbD i.val = decide (i.val < k.val) := by decide +kernel
theorem seg_shr (v : BitVec 64) {w c : Nat} (h : c ≤ w) : bitsN (v >>> (w - c)) c = seg v w c := by
  apply List.ext_getElem?
  intro i
  by_cases hi : i < c
  · rw [seg_get _ hi, seg_get _ hi, BitVec.getLsbD_ushiftRight]
    congr 2; omega
  · rw [List.getElem?_eq_none (by rw [seg_len]; omega), List.getElem?_eq_none (by rw [seg_len]; omega)]
theorem valOf_mask (v : BitVec 64) {w : Nat} (hw : w ≤ 64) : valOf (bitsN v w) = v &&& ((1#64 <<< w) - 1#64) := by
  apply BitVec.eq_of_getLsbD_eq
  intro i hi
  have := mask64_get ⟨w, by omega⟩ ⟨i, hi⟩
  simp only at this
  rw [valOf_bitsN_get v w hi, BitVec.getLsbD_and, this, Bool.and_comm]
theorem valOf_cut (v : BitVec 64) {w c : Nat} (hw : w ≤ 64) (hc : c ≤ w) : (valOf (seg v w c) <<< (w - c)) ||| valOf (bitsN v (w - c)) = v &&& ((1#64 <<< w) - 1#64) := by
  apply BitVec.eq_of_getLsbD_eq
  intro i hi
  have := mask64_get ⟨w, by omega⟩ ⟨i, hi⟩
  simp only at this
  rw [BitVec.getLsbD_or, valOf_bitsN_get v _ hi, BitVec.getLsbD_and, this, BitVec.getLsbD_shiftLeft, decide_eq_true hi, valOf_get c _ (seg_len v w c) _ (by omega)]
  by_cases h1 : i < w - c
  · rw [decide_eq_true h1, decide_eq_true (show i < w by omega)]; simp
  · by_cases h2 : i < w
    · rw [decide_eq_false h1, decide_eq_true h2, decide_eq_true (show i - (w - c) < c by omega), List.getD, seg_get v (by omega), Option.getD_some, show w - 1 - (c - 1 - (i - (w - c))) = i by omega]; simp
    · rw [decide_eq_false h1, decide_eq_false h2, decide_eq_false (show ¬(i - (w - c) < c) by omega)]; simp
theorem valOf_all (v : BitVec 64) : valOf (bitsN v 64) = v := by
  apply BitVec.eq_of_getLsbD_eq
  intro i hi
  rw [valOf_bitsN_get v _ hi, decide_eq_true hi]; simp
theorem u64n (n : Nat) (h : n ≤ 9223372036854775807) : IntKind.wrap .u64 (n : Int) = (n : Int) := u64 (by omega) (by omega)
namespace F3
theorem ok (v : BitVec 64) (a1 a2 a3 : Int) (H : Heap) : ∃ H', Cc 3 [.int .u64 (nb v), .int .i64 a1, .int .i64 a2, .int .i64 a3] H = some (.bool true, H') := by
  obtain ⟨w, ew, hw⟩ := modN a1 65 (by decide) (by decide)
  obtain ⟨d, ed, hd⟩ := modN a3 20 (by decide) (by decide)
  have e1 : IntKind.wrap .u64 (IntKind.wrap .i64 ((w : Int) + 1)) = ((w + 1 : Nat) : Int) := by rw [i64 (by omega) (by omega), u64 (by omega) (by omega)]; rfl
  obtain ⟨c, ec, hc⟩ := modN a2 ((w + 1 : Nat) : Int) (by omega) (by omega)
  have e2 : IntKind.wrap .i64 ((w : Int) - (c : Int)) = ((w - c : Nat) : Int) := by rw [i64 (by omega) (by omega)]; omega
  have e3 := u64n (w - c) (by omega)
  have e4 : ishr .u64 (nb v) ((w - c : Nat) : Int) = nb (v >>> (w - c)) := ishr_nb (k := .u64) v (w - c) (show w - c ≤ 64 by omega)
  have e5 : IntKind.wrap .i64 ((d : Int) + (w : Int)) = ((d + w : Nat) : Int) := by rw [i64 (by omega) (by omega)]; rfl
  have w0 := WR.mk0 H
  generalize E1 : H.push (.row [.slice none 0 0, .int .i64 0] true) = H1 at w0
  have n1 : H1.next = H.next + 1 := by rw [← E1]; rfl
  have w1 := WR.mk0 H1
  generalize E2 : H1.push (.row [.slice none 0 0, .int .i64 0] true) = H2 at w1
  have k2 : Keep H1.next H1 H2 := by rw [← E2]; exact Keep.push _ (Nat.le_refl _)
  have s2 : W2 H2 H.next H1.next [] [] none 0 0 none 0 0 := ⟨w0.new k2, w1, fun x hx hy => by
    rcases hx with rfl | hx
    · rcases hy with hy | hy
      · omega
      · exact In1.none hy
    · exact In1.none hx⟩
  obtain ⟨a3', n3, k3, H3, c3, w3, f3⟩ := F14.ok (v := 5#64) s2.l (width := d) (by omega) (by simp; omega)
  have s3 := s2.left w3 f3
  obtain ⟨a4, n4, k4, H4, c4, w4, f4⟩ := F14.ok (v := 5#64) s3.r (width := d) (by omega) (by simp; omega)
  have s4 := (s3.symm.left w4 f4).symm
  obtain ⟨a5, n5, k5, H5, c5, w5, f5⟩ := F14.ok (v := v) s4.l (width := w) (by omega) (by simp [seg_len]; omega)
  have s5 := s4.left w5 f5
  obtain ⟨a6, n6, k6, H6, c6, w6, f6⟩ := F14.ok (v := v >>> (w - c)) s5.r (width := c) (by omega) (by simp [seg_len]; omega)
  have s6 := (s5.symm.left w6 f6).symm
  obtain ⟨a7, n7, k7, H7, c7, w7, f7⟩ := F14.ok (v := v) s6.r (width := w - c) (by omega) (by simp [seg_len]; omega)
  have s7 := (s6.symm.left w7 f7).symm
  have eL : ([] ++ bitsN 5#64 d ++ bitsN (v >>> (w - c)) c ++ bitsN v (w - c) : List Bool) = [] ++ bitsN 5#64 d ++ bitsN v w := by
    rw [seg_shr v (by omega), List.append_assoc ([] ++ bitsN 5#64 d), seg_app v (by omega) (Nat.le_refl _) (by omega)]
  generalize hL : ([] ++ bitsN 5#64 d ++ bitsN v w : List Bool) = L at *
  rw [eL] at s7
  have lL : L.length = d + w := by rw [← hL]; simp [seg_len]
  obtain ⟨a8, k8, H8, c8, o8, g8⟩ := F16.ok s7.l (by omega)
  have r8 := s7.r.new g8
  obtain ⟨a9, k9, H9, c9, o9, g9⟩ := F16.ok r8 (by omega)
  have l9 := (s7.l.new g8).new g9
  obtain ⟨a10, k10, H10, c10, o10, g10⟩ := F16.ok l9 (by omega)
  obtain ⟨q, a11, H11, c11, r11, _⟩ := F17.ok o10.sl (pack_isB L) (by rw [pack_len]; omega)
  rw [unpack_pack] at r11
  have lF : (fillUp L).length = 8 * ((L.length + 7) / 8) := fillUp_len L
  obtain ⟨H12, c12, r12, _⟩ := F18.take r11 (w := d) (by omega) (by omega)
  obtain ⟨H13, c13, r13, _⟩ := F18.take r12 (w := c) (by omega) (by simp; omega)
  obtain ⟨H14, c14, r14, _⟩ := F18.take r13 (w := w - c) (by omega) (by simp; omega)
  have ex : ((fillUp L).drop d).take c = seg v w c ∧ (((fillUp L).drop d).drop c).take (w - c) = bitsN v (w - c) := by
    have : fillUp L = bitsN 5#64 d ++ (seg v w c ++ (bitsN v (w - c) ++ List.replicate ((8 - L.length % 8) % 8) false)) := by
      unfold fillUp
      rw [← List.append_assoc (seg v w c), seg_app v (by omega) (Nat.le_refl _) (by omega), ← List.append_assoc]
      congr 1
      rw [← hL]; rfl
    rw [this, List.drop_left' (seg_len _ _ _), List.drop_left' (seg_len _ _ _)]
    exact ⟨List.take_left' (seg_len _ _ _), List.take_left' (seg_len _ _ _)⟩
  rw [ex.1] at c13
  rw [ex.2] at c14
  obtain ⟨H', cE, _⟩ := F19.ok H14
  refine ⟨H', call ?_⟩
  rw [ew, ed, e1, ec, e2, e3, e4, e5]
  refine ⟨by omega, H1, E1.symm, H2, E2.symm, H3, c3, H4, c4, H5, c5, by omega, H6, c6, H7, c7, _, _, F15.ok s7.l, ?_⟩
  rw [if_pos (by rw [lL])]
  refine ⟨_, _, F15.ok s7.r, _, _, F15.ok s7.l, ?_⟩
  rw [if_pos rfl]
  refine ⟨_, _, _, _, c8, _, o8.sl.str, _, _, _, _, c9, _, o9.sl.str, (o8.sl.keep g9).str, L0_step ?_⟩
  rw [if_neg (by simp), e2]
  refine ⟨_, _, _, _, c10, _, _, c11, _, _, c12, _, _, c13, _, _, c14, ?_⟩
  by_cases h64 : ((w - c : Nat) : Int) = 64
  · rw [if_pos h64]
    have : w - c = 64 := by omega
    rw [if_pos (by rw [this, valOf_all])]
    exact ⟨_, _, cE, rfl⟩
  · rw [if_neg h64, e3, u64n w (by omega)]
    refine ⟨by omega, by omega, ?_⟩
    have f1 : ishl .u64 (nb (valOf (seg v w c))) ((w - c : Nat) : Int) = nb (valOf (seg v w c) <<< (w - c)) := ishl_nb (k := .u64) rfl _ (w - c) (show w - c ≤ 64 by omega)
    have f2 := mask64_int ⟨w, by omega⟩
    simp only at f2
    have f3 : ior .u64 (nb (valOf (seg v w c) <<< (w - c))) (nb (valOf (bitsN v (w - c)))) = nb ((valOf (seg v w c) <<< (w - c)) ||| valOf (bitsN v (w - c))) := ior_nb (k := .u64) rfl _ _
    have f4 : iand .u64 (nb v) (nb ((1#64 <<< w) - 1#64)) = nb (v &&& ((1#64 <<< w) - 1#64)) := iand_nb (k := .u64) rfl _ _
    rw [f1, f2, f3, f4, valOf_cut v (by omega) (by omega), if_pos rfl]
    exact ⟨_, _, cE, rfl⟩
theorem law {H : Heap} {ds : List (List Value)} (h : HoldsAll H [.int .u64, .int .i64, .int .i64, .int .i64] ds) : ∃ H', Cc 3 (vals [.int .u64, .int .i64, .int .i64, .int .i64] ds) H = some (.bool true, H') := by
  obtain ⟨d0, _, rfl, h0, h⟩ := h.cons
  obtain ⟨d1, _, rfl, h1, h⟩ := h.cons
  obtain ⟨d2, _, rfl, h2, h⟩ := h.cons
  obtain ⟨d3, _, rfl, h3, h⟩ := h.cons
  obtain rfl := h.nil
  obtain ⟨x, rfl, hx⟩ := h0.i
  obtain ⟨a, rfl, _⟩ := h1.i
  obtain ⟨b, rfl, _⟩ := h2.i
  obtain ⟨c, rfl, _⟩ := h3.i
  rw [u64_wf hx]
  exact ok _ a b c H
end F3
theorem F9.law {H : Heap} {ds : List (List Value)} (h : HoldsAll H [TFld] ds) : ∃ H', Cc 9 (vals [TFld] ds) H = some (.bool true, H') := by
  obtain ⟨d0, _, rfl, h0, h⟩ := h.cons
  obtain rfl := h.nil
  obtain ⟨f, rfl, hf⟩ := fldOf h0
  exact F9.ok hf
namespace F8
theorem low_law : ∀ (low : _root_.Fin 256) (b : _root_.Fin 7), decide (ishl .u8 (low.val : Int) ((b.val + 1 : Nat) : Int) = 0) = (((unpack [(low.val : Int), 7]).drop (b.val + 1)).take (7 - b.val)).all (fun x => !x) := by decide +kernel
theorem seven : ∀ (low : _root_.Fin 256), (unpack [(low.val : Int), 7]).drop 8 = [false, false, false, false, false, true, true, true] := by decide +kernel
theorem l2 {low : Int} (hl : 0 ≤ low ∧ low < 256) (a3 : Int) (H : Heap) : ∃ H', L2 low a3 H (.bool true, H') := by
  obtain ⟨m, em, hm⟩ := modN a3 7 (by decide) (by decide)
  obtain ⟨b, rfl⟩ := Int.eq_ofNat_of_zero_le hl.1
  have e1 : IntKind.wrap .i64 (1 + (m : Int)) = ((m + 1 : Nat) : Int) := by rw [i64 (by omega) (by omega)]; omega
  have on := OwnI.new (K := .u8) H [(b : Int), 7]
  have k1 : Keep H.next H (H.push (.row [.int .u8 (b : Int), .int .u8 7] true)) := Keep.push _ (Nat.le_refl _)
  obtain ⟨p, a1, H1, c1, r1, _⟩ := F17.ok on.sl (by intro x hx; simp at hx; omega) (by simp)
  have lu : (unpack [(b : Int), 7]).length = 16 := by rw [unpack_len]; rfl
  obtain ⟨H2, c2, r2, _⟩ := F18.take r1 (w := m + 1) (by omega) (by omega)
  have h1 := low_law ⟨b, by omega⟩ ⟨m, by omega⟩
  simp only at h1
  have h2 := seven ⟨b, by omega⟩
  simp only at h2
  have e8 : ((unpack [(b : Int), 7]).drop (m + 1)).length % 8 = 7 - m := by simp [lu]; omega
  rcases F33.ok r2 with ⟨ha, H3, c3, r3, _⟩ | ⟨⟨x, hx, hxt⟩, H3, c3, r3, _⟩
  · rw [e8] at ha r3
    have hz : ishl .u8 (b : Int) ((m + 1 : Nat) : Int) = 0 := by
      have : (((unpack [(b : Int), 7]).drop (m + 1)).take (7 - m)).all (fun x => !x) = true := List.all_eq_true.2 fun x hx => by rw [ha x hx]; rfl
      rw [this] at h1
      exact of_decide_eq_true h1
    rw [List.drop_drop, show m + 1 + (7 - m) = 8 by omega, h2] at r3
    obtain ⟨H4, c4, r4, _⟩ := F18.take r3 (w := 8) (by omega) (by simp)
    obtain ⟨H', c5, _⟩ := F19.ok H4
    refine ⟨H', L2_step ?_⟩
    rw [em, e1, u64n _ (by omega)]
    refine ⟨_, rfl, _, _, c1, _, _, c2, _, c3, by omega, ?_⟩
    rw [if_pos hz]
    refine ⟨_, _, F36.ok r3, ?_⟩
    rw [if_pos (by simp)]
    refine ⟨_, _, c4, ?_⟩
    rw [if_pos (by decide +kernel)]
    refine ⟨_, _, F37.ok r4, ?_⟩
    rw [if_pos (by simp)]
    exact ⟨_, _, c5, rfl⟩
  · rw [e8] at hx
    have hz : ¬ishl .u8 (b : Int) ((m + 1 : Nat) : Int) = 0 := by
      intro h0
      rw [decide_eq_true h0] at h1
      have := List.all_eq_true.1 h1.symm x hx
      rw [hxt] at this
      cases this
    obtain ⟨H', c5, _⟩ := F19.ok H3
    refine ⟨H', L2_step ?_⟩
    rw [em, e1, u64n _ (by omega)]
    refine ⟨_, rfl, _, _, c1, _, _, c2, _, c3, by omega, ?_⟩
    rw [if_neg hz]
    refine ⟨_, _, F37.ok r3, ?_⟩
    rw [if_pos (by simp)]
    refine ⟨_, _, F36.ok r3, ?_⟩
    rw [if_pos (by simp)]
    refine ⟨_, _, F18.bad r3 (w := 8) (by simp), ?_⟩
    rw [if_pos rfl]
    exact ⟨_, _, c5, rfl⟩
theorem l1 {low : Int} (hl : 0 ≤ low ∧ low < 256) (a3 : Int) {G : Heap} {p : Nat} {a t : Option Addr} {n k : Nat} {ws : List Int} (hs : Ints .i64 G t n k ws) (hn : n ≤ 140737488355328) (hp : G.next ≤ p) : ∀ (d j : Nat) (H : Heap), j + d = n → RM H p a [] 2 → Keep G.next G H → ∃ H', L1 low a3 (some ⟨p, 0, none⟩) t n k (n : Int) (j : Int) H (.bool true, H') := by
  intro d
  induction d with
  | zero =>
    intro j H hj h hk
    obtain ⟨H', z⟩ := l2 hl a3 H
    exact ⟨H', L1_step (by rw [if_neg (by omega)]; exact z)⟩
  | succ d ih =>
    intro j H hj h hk
    have hwl := hs.ln
    obtain ⟨b, o, rfl⟩ := hs.at (by omega)
    have hx : ws[j]? = some (ws.getD j 0) := by simp [List.getD, List.getElem?_eq_getElem (show j < ws.length by omega)]
    by_cases h20 : (j : Int) ≥ 20
    · obtain ⟨H', z⟩ := l2 hl a3 H
      refine ⟨H', L1_step ?_⟩
      rw [if_pos (by omega)]
      refine ⟨b, o, rfl, by omega, by omega, _, Ints.get (hs.keep hk) hx, ?_⟩
      rw [if_pos h20]
      exact z
    · rcases F33.ok h with ⟨_, H2, c2, r2, f2⟩ | ⟨⟨x, hx, _⟩, _⟩
      · rw [List.drop_nil] at r2
        obtain ⟨H', z⟩ := ih (j + 1) H2 (by omega) r2 (hk.trans (f2.keep hk.next hp))
        refine ⟨H', L1_step ?_⟩
        rw [if_pos (by omega)]
        refine ⟨b, o, rfl, by omega, by omega, _, Ints.get (hs.keep hk) hx, ?_⟩
        rw [if_neg h20]
        refine ⟨_, c2, _, _, F18.bad r2 (by simp), ?_⟩
        rw [if_pos rfl]
        refine ⟨_, _, _, _, F31.none r2 (by simp), ?_⟩
        rw [if_pos (by simp)]
        refine ⟨_, _, F36.ok r2, ?_⟩
        rw [if_pos (by simp)]
        refine ⟨_, _, F37.ok r2, L3_step ?_⟩
        rw [if_neg (by simp), i64 (by omega) (by omega)]
        exact_mod_cast z
      · simp at hx
theorem ok {H : Heap} {a0 t : Option Addr} {n0 k0 n k : Nat} {xs ws : List Int} (h0 : By H a0 n0 k0 xs) (hb : IsB xs) (hs : Ints .i64 H t n k ws) (hn : n ≤ 140737488355328) {low : Int} (hl : 0 ≤ low ∧ low < 256) (a3 : Int) :
    ∃ H', Cc 8 [.slice a0 n0 k0, .slice t n k, .int .u8 low, .int .i64 a3] H = some (.bool true, H') := by
  by_cases h : (n0 : Int) > 100
  · obtain ⟨H', c, _⟩ := F19.ok H
    refine ⟨H', call ?_⟩
    rw [if_pos h]
    exact ⟨_, _, c, rfl⟩
  · have hl0 := h0.ln
    obtain ⟨p, a1, H1, c1, r1, hp, _, g1⟩ := F17.ok h0 hb (by omega)
    obtain ⟨H2, c2, r2, f2⟩ := F31.short r1 (n := (n0 : Int) + 1) (by omega) (by rw [unpack_len]; omega)
    obtain ⟨H', z⟩ := l1 hl a3 hs hn hp n 0 H2 (by omega) r2 (g1.trans (f2.keep g1.next hp))
    refine ⟨H', call ?_⟩
    rw [if_neg h]
    refine ⟨_, _, c1, ?_⟩
    rw [i64 (by omega) (by omega)]
    refine ⟨_, _, _, _, c2, _, _, F36.ok r2, ?_⟩
    rw [if_pos (by simp)]
    refine ⟨_, _, F37.ok r2, L0_step ?_⟩
    rw [if_neg (by simp)]
    exact z
theorem law {H : Heap} {ds : List (List Value)} (h : HoldsAll H [.slice (.int .u8) 1, .slice (.int .i64) 8, .int .u8, .int .i64] ds) : ∃ H', Cc 8 (vals [.slice (.int .u8) 1, .slice (.int .i64) 8, .int .u8, .int .i64] ds) H = some (.bool true, H') := by
  obtain ⟨d0, _, rfl, h0, h⟩ := h.cons
  obtain ⟨d1, _, rfl, h1, h⟩ := h.cons
  obtain ⟨d2, _, rfl, h2, h⟩ := h.cons
  obtain ⟨d3, _, rfl, h3, h⟩ := h.cons
  obtain rfl := h.nil
  obtain ⟨a, n, k, xs, rfl, s, b, w⟩ := h0.ints
  obtain ⟨a', n', k', xs', rfl, s', b', w'⟩ := h1.ints
  obtain ⟨low, rfl, hl⟩ := h2.i
  obtain ⟨c, rfl, _⟩ := h3.i
  exact ok s (IsB.of w) s' (by omega) (u8_wf hl) c
end F8
end Go.X
