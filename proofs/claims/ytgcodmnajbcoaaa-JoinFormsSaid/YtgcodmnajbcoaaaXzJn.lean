/- The law JoinForms. -/
import Derived.Test.YtgcodmnajbcoaaaXzPc
import Derived.Test.YtgcodmnajbcoaaaXzTf3
set_option linter.unusedVariables false
set_option linter.unusedSimpArgs false
set_option maxRecDepth 20000
namespace Go.X
open Go Go.RowKit Go.Proofs
abbrev TRq : Ty := .strct (.pair (.int .i64) (.pair (.int .i64) (.pair (.int .u32) (.pair (.int .u32) (.pair (.int .u32) (.unit))))))
abbrev TC5 : Ty := .strct (.pair (.int .i64) (.pair (.int .i64) (.pair (.int .i64) (.pair (.int .i64) (.pair (.int .i64) (.unit))))))
abbrev TGr : Ty := .strct (.pair (.int .i64) (.pair (.int .i64) (.pair (.int .u32) (.pair (.slice TC5 40) (.pair (.int .u32) (.unit))))))
theorem rqOf {H : Heap} {vs : List Value} (h : Holds H TRq vs) : ∃ v : RQ, vs = v.cells := by
  obtain ⟨_, _, rfl, ⟨a, rfl, _⟩, _, _, rfl, ⟨b, rfl, _⟩, _, _, rfl, ⟨c, rfl, _⟩, _, _, rfl, ⟨d, rfl, _⟩, _, _, rfl, ⟨e, rfl, _⟩, rfl⟩ := h
  exact ⟨⟨a, b, c, d, e⟩, rfl⟩
theorem cOf {H : Heap} {vs : List Value} (h : Holds H TC5 vs) : ∃ v : C5, vs = v.cells ∧ True := by
  obtain ⟨_, _, rfl, ⟨a, rfl, _⟩, _, _, rfl, ⟨b, rfl, _⟩, _, _, rfl, ⟨c, rfl, _⟩, _, _, rfl, ⟨d, rfl, _⟩, _, _, rfl, ⟨e, rfl, _⟩, rfl⟩ := h
  exact ⟨⟨a, b, c, d, e⟩, rfl, trivial⟩
theorem grOf {H : Heap} {vs : List Value} (h : Holds H TGr vs) : ∃ g : Gr, vs = g.cells ∧ Cells H g.sa g.v.l.length g.sk g.v.l := by
  obtain ⟨_, _, rfl, ⟨a, rfl, _⟩, _, _, rfl, ⟨b, rfl, _⟩, _, _, rfl, ⟨c, rfl, _⟩, _, _, rfl, hs, _, _, rfl, ⟨e, rfl, _⟩, rfl⟩ := h
  obtain ⟨x, n, k, l, rfl, s, hl, hok, hb⟩ := Holds.recs (f := C5.cells) (Q := fun _ => True) (fun _ h => cOf h) hs
  subst hl
  exact ⟨⟨⟨a, b, c, l, e⟩, x, k⟩, rfl, s⟩
namespace F3
theorem both {H : Heap} {s : Option Addr} {sn sk : Nat} {ys : List Int} (hs : By H s sn sk ys) (hb : IsB ys) (hl : sn ≤ 1000000) : ∃ (v : RQ) (e : Int) (H1 H3 H4 H6 : Heap) (g g' : Gr) (e' : Int) (H7 H9 H10 H12 H13 : Heap),
    Cc 14 [.slice s sn sk] H = some (.tuple #[v.agg, .int .i64 e], H1) ∧ stc (H1.push (.row rq0.cells true)) H1.next 0 v.cells = some H3 ∧ Cc 15 [.slice s sn sk] H3 = some (.tuple #[v.agg, .int .i64 e], H4) ∧ stc (H4.push (.row rq0.cells true)) H4.next 0 v.cells = some H6 ∧
    Cc 16 [.slice s sn sk] H6 = some (.tuple #[g.agg, .int .i64 e'], H7) ∧ stc (H7.push (.row gr0.cells true)) H7.next 0 g.cells = some H9 ∧ Cc 17 [.slice s sn sk] H9 = some (.tuple #[g'.agg, .int .i64 e'], H10) ∧ stc (H10.push (.row gr0.cells true)) H10.next 0 g'.cells = some H12 ∧
    ldAll H12 H1.next 0 v.cells ∧ ldAll H12 H4.next 0 v.cells ∧ ldAll H12 H7.next 0 g.cells ∧ ldAll H12 H10.next 0 g'.cells ∧ Cc 18 [g.agg, g'.agg] H12 = some (.bool true, H13) ∧ Keep H.next H H13 := by
  obtain ⟨H1, c1, k1⟩ := F14.ok hs hb (by omega)
  obtain ⟨H3, s3, g3, k3, n3⟩ := fill H1 rq0.cells (decR ys).1.cells rfl
  have k13 := k1.th k3
  obtain ⟨H4, c4, k4⟩ := F15.ok (hs.keep k13) hb (by omega)
  obtain ⟨H6, s6, g6, k6, n6⟩ := fill H4 rq0.cells (decR ys).1.cells rfl
  have k36 := k4.th k6
  have k06 := k13.th k36
  obtain ⟨g, H7, c7, ok7, v7, _, k7⟩ := F16.ok (hs.keep k06) hb (by omega)
  obtain ⟨H9, s9, g9, k9, n9⟩ := fill H7 gr0.cells g.cells rfl
  have k69 := k7.th k9
  have k09 := k06.th k69
  obtain ⟨g', H10, c10, ok10, v10, k10⟩ := F17.ok (hs.keep k09) hb (by omega)
  obtain ⟨H12, s12, g12, k12, n12⟩ := fill H10 gr0.cells g'.cells rfl
  have k912 := k10.th k12
  obtain ⟨H13, c13, k13'⟩ := F18.ok ((ok7.keep k9).keep k912) (ok10.keep k12)
  rw [v7, v10, decide_eq_true rfl] at c13
  have m3 := k36.next; have m6 := k69.next; have m9 := k912.next; have m1 := k4.next; have m7 := k10.next
  refine ⟨_, _, H1, H3, H4, H6, g, g', _, H7, H9, H10, H12, H13, c1, s3, c4, s6, c7, s9, c10, s12, rldAll (own := true) ?_, rldAll (own := true) ?_, rldAll (own := true) ?_, rldAll g12, c13, (k09.th k912).th k13'⟩
  · rw [k912.get _ (by omega), k69.get _ (by omega), k36.get _ (by omega)]; exact g3
  · rw [k912.get _ (by omega), k69.get _ (by omega)]; exact g6
  · rw [k912.get _ (by omega)]; exact g9
theorem step {A B C : Value} {a0 a1 a2 : Option Addr} {n0 n1 n2 k0 k1 k2 : Nat} {H : Heap} {s : Option Addr} {sn sk : Nat} {ys : List Int} {t : Int} {G : Heap → Prop} (hs : By H s sn sk ys) (hb : IsB ys) (hl : sn ≤ 1000000) (ht : t < 3) (h0 : 0 ≤ t) (hp : pag [.slice a0 n0 k0, .slice a1 n1 k1, .slice a2 n2 k2] t = some (.slice s sn sk))
    (hn : ∀ X, Keep H.next H X → ∃ H', L2 a0 n0 k0 a1 n1 k1 a2 n2 k2 (t + 1) X (.bool true, H')) : ∃ H', L2 a0 n0 k0 a1 n1 k1 a2 n2 k2 t H (.bool true, H') := by
  obtain ⟨v, e, H1, H3, H4, H6, g, g', e', H7, H9, H10, H12, H13, c1, s3, c4, s6, c7, s9, c10, s12, l1, l2, l3, l4, c13, kk⟩ := both hs hb hl
  obtain ⟨H', z⟩ := hn H13 kk
  refine ⟨H', L2_step ?_⟩
  rw [if_pos ht]
  refine ⟨_, _, _, hp, _, _, _, _, _, _, _, c1, _, rfl, H3, s3, _, _, _, _, _, _, _, c4, _, rfl, H6, s6, _, _, _, _, _, _, _, _, _, c7, _, rfl, H9, s9, _, _, _, _, _, _, _, _, _, c10, _, rfl, H12, s12, _, _, _, _, _, l1, _, _, _, _, _, l2, ?_⟩
  rw [if_pos (by simp), if_pos rfl]
  refine ⟨_, _, _, _, _, _, _, l3, _, _, _, _, _, _, _, l4, _, _, c13, ?_⟩
  rw [if_pos rfl]
  refine L3_step ?_
  rw [if_neg (by simp), i64 (by omega) (by omega)]
  exact z
theorem l1 {H : Heap} {c s a a' : Option Addr} {cn ck sn sk n k n' k' : Nat} {ps ys bs bs' : List Int} {x cut : Int} (hp : Ints .i64 H c cn ck ps) (hs : By H s sn sk ys) (ha : By H a n k bs) (ha' : By H a' n' k' bs') (hb : IsB bs) (hb' : IsB bs') (hy : IsB ys) (hx : 0 ≤ x ∧ x < 256) (hn : n ≤ 1000) (hn' : n' ≤ 1000) (hsn : sn ≤ 1000) (hcn : cn ≤ 140737488355328) :
    ∃ H', L1 c cn ck x cut s sn sk a n k a' n' k' false H (.bool true, H') := by
  obtain ⟨zs, b1, m1, j1, H1, c1, q1, q2, q3, k1⟩ := F13.ok (cut := cut) hp ha hb hx (by omega) hcn
  obtain ⟨zs', b2, m2, j2, H2, c2, p1, p2, p3, k2⟩ := F13.ok (cut := cut) (hp.keep k1) (ha'.keep k1) hb' hx (by omega) hcn
  have k12 := k1.th k2
  obtain ⟨H', z⟩ : ∃ H', L2 b1 m1 j1 b2 m2 j2 s sn sk 0 H2 (.bool true, H') := by
    refine step (A := .bool true) (B := .bool true) (C := .bool true) (G := fun _ => True) (q1.keep k2) q2 (by omega) (by decide) (by decide) rfl fun X kX => ?_
    refine step (A := .bool true) (B := .bool true) (C := .bool true) (G := fun _ => True) (p1.keep kX) p2 (by omega) (by decide) (by decide) rfl fun Y kY => ?_
    refine step (A := .bool true) (B := .bool true) (C := .bool true) (G := fun _ => True) ((hs.keep k12).keep (kX.th kY)) hy (by omega) (by decide) (by decide) rfl fun Z kZ => ?_
    obtain ⟨H', c, _⟩ := F8.ok Z
    refine ⟨H', L2_step ?_⟩
    rw [if_neg (by decide)]
    exact ⟨_, _, c, rfl⟩
  refine ⟨H', L1_step ?_⟩
  rw [if_neg (by simp)]
  exact ⟨_, _, _, _, c1, _, _, _, _, c2, z⟩
theorem ok {H : Heap} {key : Int} {v : RQ} {g : Gr} {c s : Option Addr} {cn ck sn sk : Nat} {ps ys : List Int} {x cut : Int} (hgl : Cells H g.sa g.v.l.length g.sk g.v.l) (hp : Ints .i64 H c cn ck ps) (hs : By H s sn sk ys) (hy : IsB ys) (hx : 0 ≤ x ∧ x < 256) (hcn : cn ≤ 140737488355328) :
    ∃ H', Cc 3 [.int .u64 key, v.agg, g.agg, .slice c cn ck, .int .u8 x, .int .i64 cut, .slice s sn sk] H = some (.bool true, H') := by
  obtain ⟨H1, H2, e1, e2, n1, n2, g1, g2, g3, k1, k2⟩ := two H v.cells g.cells
  obtain ⟨H3, e3, n3, g3', k3⟩ := one H2 g.cells
  have c7 : Cc 7 [g.agg] H2 = some (.bool (decide ((g.v.l.length : Int) ≤ 40)), H3) := F7.call ⟨_, e3, _, _, _, rldc' g3' 3, rfl⟩
  have k23 := k3
  have gv : H3.get H.next = .row v.cells true := by rw [k3.get _ (by omega)]; exact g2
  have gg : H3.get H1.next = .row g.cells true := by rw [k3.get _ (by omega)]; exact g3
  have k03 : Keep H.next H H3 := k2.trans (k3.weak (by omega))
  have aw : ∃ H', L0 key c cn ck x cut s sn sk H.next 0 H1.next 0 true H3 (.bool true, H') := by
    obtain ⟨H', c, _⟩ := F8.ok H3
    refine ⟨H', L0_step ?_⟩
    rw [if_pos rfl]
    exact ⟨_, _, c, rfl⟩
  have go : ∀ rv, (if (g.v.l.length : Int) ≤ 40 then L0 key c cn ck x cut s sn sk H.next 0 H1.next 0 (decide ((sn : Int) > 200)) H3 rv else L0 key c cn ck x cut s sn sk H.next 0 H1.next 0 true H3 rv) → Cc 3 [.int .u64 key, v.agg, g.agg, .slice c cn ck, .int .u8 x, .int .i64 cut, .slice s sn sk] H = some rv := by
    intro rv hv
    refine call ⟨_, e1, _, e2, _, _, _, _, _, _, _, rldAll g3, _, _, c7, ?_⟩
    by_cases h : (g.v.l.length : Int) ≤ 40
    · rw [if_pos h] at hv
      rw [if_pos (decide_eq_true h)]; exact hv
    · rw [if_neg h] at hv
      rw [if_neg (by simpa using h)]; exact hv
  by_cases l1' : (g.v.l.length : Int) ≤ 40
  · by_cases l2' : (sn : Int) > 200
    · obtain ⟨H', z⟩ := aw
      exact ⟨H', go _ (by rw [if_pos l1', decide_eq_true l2']; exact z)⟩
    have hg : GrOk H g := ⟨hgl, by omega⟩
    have hg3 := hg.keep k03
    obtain ⟨a4, j4, H4, c4, o4, k4⟩ := F9.ok key v H3
    obtain ⟨a5, j5, H5, c5, o5, k5⟩ := F10.ok key v H4
    have k45 := k4.th k5
    obtain ⟨a6, j6, H6, c6, o6, k6⟩ := F11.ok key (hg3.keep k45)
    have k46 := k45.th k6
    obtain ⟨a7, j7, H7, c7', o7, k7⟩ := F12.ok key (hg3.keep k46)
    have k47 := k46.th k7
    have m4 := k4.next
    have row : ∀ {X b}, Keep H3.next H3 X → b < H3.next → X.get b = H3.get b := fun k hb => k.get _ hb
    have gv4 : H4.get H.next = .row v.cells true := by rw [row k4 (by omega)]; exact gv
    have gg5 : H5.get H1.next = .row g.cells true := by rw [row k45 (by omega)]; exact gg
    have gg6 : H6.get H1.next = .row g.cells true := by rw [row k46 (by omega)]; exact gg
    have sa := Sl.str (Sl.keep o4.sl ((k5.th k6).th k7))
    have sb := Sl.str (Sl.keep o5.sl (k6.th k7))
    have sc := Sl.str (Sl.keep o6.sl k7)
    have sd := Sl.str o7.sl
    obtain ⟨H', z⟩ := l1 (x := x) (cut := cut) (hp.keep (k03.trans (k47.weak (by omega)))) (hs.keep (k03.trans (k47.weak (by omega)))) (show By H7 a5 _ j5 _ from Sl.keep o5.sl (k6.th k7)) (show By H7 a7 _ j7 _ from o7.sl) (askB_isB key v) (giveB_isB key g.v) hy hx (by have := askB_len key v; omega) (by have := giveB_len key g.v; omega) (by omega) hcn
    refine ⟨H', go _ ?_⟩
    rw [if_pos l1', decide_eq_false l2']
    refine L0_step ?_
    rw [if_neg (by simp)]
    refine ⟨_, _, _, _, _, rldAll gv, _, _, _, _, _, c4, _, _, _, _, _, rldAll gv4, _, _, _, _, _, c5, _, _, _, _, _, _, _, rldAll gg5, _, _, _, _, _, c6, _, _, _, _, _, _, _, rldAll gg6, _, _, _, _, _, c7', _, sa, _, sb, ?_⟩
    rw [if_pos rfl, if_pos rfl]
    refine ⟨_, sc, _, sd, ?_⟩
    rw [if_pos rfl]
    simp only [beq_self_eq_true, Bool.not_true]
    exact z
  · obtain ⟨H', z⟩ := aw
    exact ⟨H', go _ (by rw [if_neg l1']; exact z)⟩
theorem law {H : Heap} {ds : List (List Value)} (h : HoldsAll H [.int .u64, TRq, TGr, .slice (.int .i64) 8, .int .u8, .int .i64, .slice (.int .u8) 1] ds) : ∃ H', Cc 3 (vals [.int .u64, TRq, TGr, .slice (.int .i64) 8, .int .u8, .int .i64, .slice (.int .u8) 1] ds) H = some (.bool true, H') := by
  obtain ⟨d0, _, rfl, h0, h⟩ := h.cons
  obtain ⟨d1, _, rfl, h1, h⟩ := h.cons
  obtain ⟨d2, _, rfl, h2, h⟩ := h.cons
  obtain ⟨d3, _, rfl, h3, h⟩ := h.cons
  obtain ⟨d4, _, rfl, h4, h⟩ := h.cons
  obtain ⟨d5, _, rfl, h5, h⟩ := h.cons
  obtain ⟨d6, _, rfl, h6, h⟩ := h.cons
  obtain rfl := h.nil
  obtain ⟨key, rfl, _⟩ := h0.i
  obtain ⟨v, rfl⟩ := rqOf h1
  obtain ⟨g, rfl, hg⟩ := grOf h2
  obtain ⟨c, cn, ck, ps, rfl, hp, hcb, _⟩ := h3.ints
  obtain ⟨x, rfl, hx⟩ := h4.i
  obtain ⟨cut, rfl, _⟩ := h5.i
  obtain ⟨s, sn, sk, ys, rfl, hm, hsb, hy⟩ := h6.ints
  exact ok hg hp hm (IsB.of hy) (u8_wf hx) (by omega)
end F3
end Go.X
