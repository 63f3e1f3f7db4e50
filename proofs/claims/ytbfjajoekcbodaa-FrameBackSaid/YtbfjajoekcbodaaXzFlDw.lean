/- The law of the way back. -/
import Derived.Test.YtbfjajoekcbodaaXzFw
import Derived.Test.YtbfjajoekcbodaaXzTeM2
set_option linter.unusedVariables false
set_option linter.unusedSimpArgs false
set_option maxRecDepth 20000
namespace Go.X
open Go Go.RowKit Go.Proofs
theorem encF_sum (v : VF) : crcL 0#16 (encF v) = 0#16 := crcA_sum _
/-- A frame with two bytes side by side changed. -/
theorem decF_changed {v : VF} (h : mayF v) (hb : IsB v.dt) {p : Nat} {x y : Int} (hp : p + 1 < (encF v).length) (hx : 0 ≤ x ∧ x < 256) (hy : 0 ≤ y ∧ y < 256) (hne : ¬(x = 0 ∧ y = 0)) : decF (((encF v).set p (ixor .u8 (encF v)[p] x)).set (p + 1) (ixor .u8 (encF v)[p + 1] y)) = (vf0, 4) := by
  have hl := encF_len v
  have ht := told (encF_sum v) (encF_isB h hb) hx hy hp hne rfl
  unfold decF
  rw [if_neg (by rw [List.length_set, List.length_set]; omega), if_pos ht]
namespace F8
theorem l4 {G H : Heap} {a : Option Addr} {k : Nat} {v : VF} {t1 x y : Int} {b : Bool} (hm : mayF v) (hb : IsB v.dt) (ho : OwnI .u8 G.next H a (encF v).length k (encF v)) (hG : G.next ≤ H.next) (hle : (encF v).length ≤ 200) (hx : 0 ≤ x ∧ x < 256) (hy : 0 ≤ y ∧ y < 256) (hbb : b = decide (x = 0 ∧ y = 0)) : ∃ H', L4 t1 x y a (encF v).length k b H (.bool true, H') := by
  have hl := encF_len v
  have hpos := encL_pos v.es
  by_cases h0 : x = 0 ∧ y = 0
  · obtain ⟨H1, c1, k1⟩ := F27.ok H
    refine ⟨H1, L4_step ?_⟩
    rw [hbb, decide_eq_true h0, if_pos rfl]
    exact ⟨_, _, c1, rfl⟩
  · obtain ⟨m, em, hmm⟩ := modN t1 (((encF v).length : Int) - 1) (by omega) (by omega)
    have eu : IntKind.wrap .u64 (IntKind.wrap .i64 (((encF v).length : Int) - 1)) = ((encF v).length : Int) - 1 := by rw [i64 (by omega) (by omega), u64 (by omega) (by omega)]
    have e1 : IntKind.wrap .i64 ((m : Int) + 1) = ((m + 1 : Nat) : Int) := by rw [i64 (by omega) (by omega)]; omega
    obtain ⟨c, o, rfl⟩ := ho.sl.at (by omega)
    have g1 : (encF v)[m]? = some (encF v)[m] := List.getElem?_eq_getElem (by omega)
    obtain ⟨H1, s1, o1, k1, n1⟩ := OwnI.putc' ho (i := m) (by omega) (ixor .u8 (encF v)[m] x)
    have g2 : ((encF v).set m (ixor .u8 (encF v)[m] x))[m + 1]? = some (encF v)[m + 1] := by
      rw [List.getElem?_set, if_neg (by omega)]
      exact List.getElem?_eq_getElem (by omega)
    obtain ⟨H2, s2, o2, k2, n2⟩ := OwnI.putc' o1 (i := m + 1) (by omega) (ixor .u8 (encF v)[m + 1] y)
    have hbs := isB_set (isB_set (encF_isB hm hb) (i := m) (ixor8_range (encF v)[m] x)) (i := m + 1) (ixor8_range (encF v)[m + 1] y)
    have hdc := decF_changed hm hb (p := m) (by omega) hx hy h0
    obtain ⟨g, H3, c3, v3, ok3, k3⟩ := F30.ok (show By H2 (some ⟨c, o, none⟩) (encF v).length k _ from o2.sl) hbs (by rw [List.length_set, List.length_set]; omega)
    rw [hdc] at c3
    obtain ⟨H5, s5, g5, k5, n5⟩ := fill H3 fm0.cells g.cells rfl
    obtain ⟨H6, c6, k6⟩ := F27.ok H5
    have ld1 := Ints.get ho.sl g1
    have ld2 := Ints.get o1.sl g2
    refine ⟨H6, L4_step ?_⟩
    rw [hbb, decide_eq_false h0, if_neg (by simp), eu, em, e1]
    refine ⟨by omega, c, o, rfl, by omega, by omega, _, ld1, by omega, by omega, H1, s1, by omega, by omega, _, ld2, by omega, by omega, H2, s2, _, _, _, _, _, _, _, _, _, _, _, _, c3, _, rfl, H5, s5, ?_⟩
    rw [if_pos rfl]
    exact ⟨_, _, c6, rfl⟩
theorem l2 {H : Heap} {p : Nat} {f : Fm} {t1 x y : Int} (h : FmOk H f) (hb : IsB f.dt) (g : H.get p = .row f.cells true) (hp : p < H.next) (hx : 0 ≤ x ∧ x < 256) (hy : 0 ≤ y ∧ y < 256) : ∃ H', L2 t1 x y p 0 H (.bool true, H') := by
  obtain ⟨a1, k1', H1, c1, o1, k1⟩ := F33.ok h hb
  have g1 : H1.get p = .row f.cells true := by rw [k1.get _ hp]; exact g
  by_cases hm : mayF f.v
  · rw [if_pos hm, encFO_may hm] at c1
    rw [encFO_may hm] at o1
    have hle := h.len hm
    have hl := encF_len f.v
    have hpos := encL_pos f.v.es
    have hbb := encF_isB hm hb
    obtain ⟨q, H2, c2, v2, ok2, k2⟩ := F30.ok (show By H1 a1 (encF f.v).length k1' (encF f.v) from o1.sl) hbb (by omega)
    rw [decF_enc hm] at c2 v2
    obtain ⟨H4, s4, g4, k4, n4⟩ := fill H2 fm0.cells q.cells rfl
    have k14 := k2.trans (k4.weak k2.next)
    have n1 := k1.next
    have gp4 : H4.get p = .row f.cells true := by rw [k14.get _ (by omega)]; exact g1
    have v2' : q.v = f.v := v2
    have hq : IsB q.dt := by
      have : q.dt = f.dt := congrArg VF.dt v2'
      rw [this]; exact hb
    obtain ⟨H5, c5, k5⟩ := F32.ok (ok2.keep k4) ((h.keep k1).keep k14) hq hb
    obtain ⟨H', z⟩ := l4 (G := H) (H := H5) (t1 := t1) (b := if x = 0 then (y == 0) else false) hm hb ((o1.keep k14).keep k5) (by have := k14.next; have := k5.next; omega) hle hx hy (by
      by_cases x0 : x = 0
      · rw [if_pos x0, show (y == 0) = decide (y = 0) from rfl]; exact decide_eq_decide.2 ⟨fun e => ⟨x0, e⟩, fun e => e.2⟩
      · rw [if_neg x0, decide_eq_false fun e => x0 e.1])
    refine ⟨H', L2_step ⟨_, _, _, _, _, _, _, _, _, _, rldAll g, _, _, _, _, _, c1, ?_⟩⟩
    rw [if_pos rfl]
    refine ⟨_, _, _, _, _, _, _, _, _, _, _, _, c2, _, rfl, H4, s4, ?_⟩
    rw [if_pos rfl]
    refine ⟨_, _, _, _, _, _, _, _, _, _, rldAll g4, _, _, _, _, _, _, _, _, _, _, rldAll gp4, _, _, c5, ?_⟩
    rw [if_pos (by simpa using v2'), decide_eq_false (by omega)]
    refine L3_step ?_
    rw [if_neg (by simp)]
    by_cases x0 : x = 0
    · rw [if_pos x0]
      rw [if_pos x0] at z
      exact z
    · rw [if_neg x0]
      rw [if_neg x0] at z
      exact z
  · rw [if_neg hm, encFO_no hm] at c1
    obtain ⟨H2, c2, k2⟩ := F34.ok (h.keep k1)
    obtain ⟨H3, c3, k3⟩ := F27.ok H2
    refine ⟨H3, L2_step ⟨_, _, _, _, _, _, _, _, _, _, rldAll g, _, _, _, _, _, c1, ?_⟩⟩
    rw [if_neg (by decide)]
    refine ⟨_, _, _, _, _, _, _, _, _, _, rldAll g1, _, _, c2, ?_⟩
    rw [if_neg (by simpa using hm), if_pos (by simp)]
    exact ⟨_, _, c3, rfl⟩
theorem ok {H : Heap} {f : Fm} {t1 x y : Int} {s : Option Addr} {sn sk : Nat} {ys : List Int} (h : FmOk H f) (hb : IsB f.dt) (hx : 0 ≤ x ∧ x < 256) (hy : 0 ≤ y ∧ y < 256) (hs : By H s sn sk ys) (hyb : IsB ys) : ∃ H', Ce 8 [f.agg, .int .i64 t1, .int .u8 x, .int .u8 y, .slice s sn sk] H = some (.bool true, H') := by
  obtain ⟨H1, e1, n1, g1, k1⟩ := one H f.cells
  obtain ⟨H2, c2, k2⟩ := F26.ok (h.keep k1)
  have n2 := k2.next
  have g2 : H2.get H.next = .row f.cells true := by rw [k2.get _ (by omega)]; exact g1
  have hsl := hs.ln
  have aw : ∃ H', L0 t1 x y s sn sk H.next 0 true H2 (.bool true, H') := by
    obtain ⟨H3, c3, k3⟩ := F27.ok H2
    refine ⟨H3, L0_step ?_⟩
    rw [if_pos rfl]
    exact ⟨_, _, c3, rfl⟩
  by_cases hl : F26.okP f
  · by_cases h300 : (sn : Int) > 300
    · obtain ⟨H', z⟩ := aw
      refine ⟨H', call ⟨_, e1, _, _, _, _, _, _, _, _, _, _, rldAll g1, _, _, c2, ?_⟩⟩
      rw [if_pos (by simpa using hl), decide_eq_true h300]
      exact z
    · have h2 := (h.keep k1).keep k2
      have s2 := (hs.keep k1).keep k2
      obtain ⟨q, H3, c3, v3, ok3, k3⟩ := F30.ok s2 hyb (by omega)
      obtain ⟨H5, s5, g5, k5, n5⟩ := fill H3 fm0.cells q.cells rfl
      have k25 := k3.trans (k5.weak k3.next)
      have n25 := k25.next
      have st : ∀ r, (if (decF ys).2 = 0 then
    (∃ (t38c0 : Int) (t38c1 : Int) (t38c2 : Int) (t38c3 : Int) (t38c4a : Option Addr) (t38c4n : Nat) (t38c4k : Nat) (t38c5a : Option Addr) (t38c5n : Nat) (t38c5k : Nat), ldAll H5 H3.next 0 [.int .i64 t38c0, .int .i64 t38c1, .int .i64 t38c2, .int .i64 t38c3, .slice t38c4a t38c4n t38c4k, .slice t38c5a t38c5n t38c5k] ∧
    (∃ (t39r0a : Option Addr) (t39r0n : Nat) (t39r0k : Nat) (t39r1 : Int) (H_5 : Heap), Ce 33 [.agg #[.int .i64 t38c0, .int .i64 t38c1, .int .i64 t38c2, .int .i64 t38c3, .slice t38c4a t38c4n t38c4k, .slice t38c5a t38c5n t38c5k]] H5 = some (.tuple #[.slice t39r0a t39r0n t39r0k, .int .i64 t39r1], H_5) ∧
    (if t39r1 = 0 then
    (∃ (t46 : ByteArray), pstrb H_5 t39r0a t39r0n = some t46 ∧
    (∃ (t48 : ByteArray), pstrb H_5 s sn = some t48 ∧
    (if t46.toList = t48.toList then
    (∃ (t52c0 : Int) (t52c1 : Int) (t52c2 : Int) (t52c3 : Int) (t52c4a : Option Addr) (t52c4n : Nat) (t52c4k : Nat) (t52c5a : Option Addr) (t52c5n : Nat) (t52c5k : Nat), ldAll H_5 H3.next 0 [.int .i64 t52c0, .int .i64 t52c1, .int .i64 t52c2, .int .i64 t52c3, .slice t52c4a t52c4n t52c4k, .slice t52c5a t52c5n t52c5k] ∧
    (∃ (t53 : Bool) (H_6 : Heap), Ce 34 [.agg #[.int .i64 t52c0, .int .i64 t52c1, .int .i64 t52c2, .int .i64 t52c3, .slice t52c4a t52c4n t52c4k, .slice t52c5a t52c5n t52c5k]] H_5 = some (.bool t53, H_6) ∧
    (L1 (t1) (x) (y) (H.next) (0) ((!t53)) H_6 r)))
    else
    (L1 (t1) (x) (y) (H.next) (0) (true) H_5 r))))
    else
    (L1 (t1) (x) (y) (H.next) (0) (true) H_5 r))))
    else
    (L2 (t1) (x) (y) (H.next) (0) H5 r)) → Ce 8 [f.agg, .int .i64 t1, .int .u8 x, .int .u8 y, .slice s sn sk] H = some r := by
        intro r z
        refine call ⟨_, e1, _, _, _, _, _, _, _, _, _, _, rldAll g1, _, _, c2, ?_⟩
        rw [if_pos (by simpa using hl), decide_eq_false h300]
        refine L0_step ?_
        rw [if_neg (by simp)]
        exact ⟨_, _, _, _, _, _, _, _, _, _, _, _, c3, _, rfl, H5, s5, z⟩
      by_cases h0 : (decF ys).2 = 0
      · have hd : decF ys = (q.v, 0) := Prod.ext v3.symm h0
        obtain ⟨en, hm, hdt⟩ := enc_decF hyb hd
        obtain ⟨a6, k6', H6, c6, o6, k6⟩ := F33.ok (ok3.keep k5) hdt
        rw [if_pos hm, encFO_may hm, en] at c6
        rw [encFO_may hm, en] at o6
        have n6 := k6.next
        have g6 : H6.get H3.next = .row q.cells true := by rw [k6.get _ (by omega)]; exact g5
        obtain ⟨H7, c7, k7⟩ := F34.ok ((ok3.keep k5).keep k6)
        have n7 := k7.next
        have k27 := (k25.trans (k6.weak k25.next)).trans (k7.weak (by omega))
        have g7 : H7.get H.next = .row f.cells true := by rw [k27.get _ (by omega)]; exact g2
        obtain ⟨H', z⟩ := l2 (t1 := t1) (h2.keep k27) hb g7 (by omega) hx hy
        refine ⟨H', st _ ?_⟩
        rw [if_pos h0]
        refine ⟨_, _, _, _, _, _, _, _, _, _, rldAll g5, _, _, _, _, _, c6, ?_⟩
        rw [if_pos rfl]
        refine ⟨_, Sl.str (show By H6 a6 ys.length k6' ys from o6.sl), _, Sl.str ((s2.keep k25).keep k6), ?_⟩
        rw [if_pos rfl]
        refine ⟨_, _, _, _, _, _, _, _, _, _, rldAll g6, _, _, c7, L1_step ?_⟩
        rw [if_neg (by simpa using hm)]
        exact z
      · have g5' : H5.get H.next = .row f.cells true := by rw [k25.get _ (by omega)]; exact g2
        obtain ⟨H', z⟩ := l2 (t1 := t1) (h2.keep k25) hb g5' (by omega) hx hy
        refine ⟨H', st _ ?_⟩
        rw [if_neg h0]
        exact z
  · obtain ⟨H', z⟩ := aw
    refine ⟨H', call ⟨_, e1, _, _, _, _, _, _, _, _, _, _, rldAll g1, _, _, c2, ?_⟩⟩
    rw [if_neg (by simpa using hl)]
    exact z
theorem law {H : Heap} {ds : List (List Value)} (h : HoldsAll H [TFm, .int .i64, .int .u8, .int .u8, .slice (.int .u8) 1] ds) : ∃ H', Ce 8 (vals [TFm, .int .i64, .int .u8, .int .u8, .slice (.int .u8) 1] ds) H = some (.bool true, H') := by
  obtain ⟨d0, _, rfl, h0, h⟩ := h.cons
  obtain ⟨d1, _, rfl, h1, h⟩ := h.cons
  obtain ⟨d2, _, rfl, h2, h⟩ := h.cons
  obtain ⟨d3, _, rfl, h3, h⟩ := h.cons
  obtain ⟨d4, _, rfl, h4, h⟩ := h.cons
  obtain rfl := h.nil
  obtain ⟨f, rfl, hf, hb⟩ := fmOf h0
  obtain ⟨t1, rfl, _⟩ := h1.i
  obtain ⟨x, rfl, hx⟩ := h2.i
  obtain ⟨y, rfl, hy⟩ := h3.i
  obtain ⟨s, sn, sk, ys, rfl, hs, _, hw⟩ := h4.ints
  exact ok hf hb (u8_wf hx) (u8_wf hy) hs (IsB.of hw)
end F8
end Go.X
