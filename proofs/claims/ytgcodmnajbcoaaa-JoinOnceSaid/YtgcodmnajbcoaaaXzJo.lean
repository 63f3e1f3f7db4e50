/- The law JoinOnce. -/
import Derived.Test.YtgcodmnajbcoaaaXzPc
import Derived.Test.YtgcodmnajbcoaaaXzTf4
set_option linter.unusedVariables false
set_option linter.unusedSimpArgs false
set_option maxRecDepth 20000
namespace Go.X
open Go Go.RowKit Go.Proofs
/-- A bent grant is not taken. -/
theorem doneV_bent {n key a : Int} {g : GV} {e : Nat} {x : Int} (hm : mayG g) (he : e < (sealed key (encG g)).length) (hx : 0 ≤ x ∧ x < 256) (h0 : x ≠ 0) :
    (doneV n key a true ((sealed key (encG g)).set e (ixor .u8 ((sealed key (encG g)).getD e 0) x))).1.2 ≠ 0 ∧ (doneV n key a true ((sealed key (encG g)).set e (ixor .u8 ((sealed key (encG g)).getD e 0) x))).2 = true := by
  have hw := bent_wrong key (encG_isB hm) he hx h0
  have hl : ((sealed key (encG g)).set e (ixor .u8 ((sealed key (encG g)).getD e 0) x)).length = (encG g).length + 4 := by rw [List.length_set, sealed_len]
  generalize (sealed key (encG g)).set e (ixor .u8 ((sealed key (encG g)).getD e 0) x) = bs at *
  unfold doneV
  rw [if_neg (by simp)]
  by_cases h1 : (decG bs).2 ≠ 0
  · rw [if_pos h1]; exact ⟨h1, rfl⟩
  rw [if_neg h1]
  by_cases h2 : (decG bs).1.n ≠ n
  · rw [if_pos h2]; exact ⟨by decide, rfl⟩
  rw [if_neg h2, if_pos ?_]
  · exact ⟨by decide, rfl⟩
  · obtain ⟨q1, q2⟩ := decG_ok (Classical.not_not.1 h1)
    rw [q2, hl, Nat.add_sub_cancel]
    exact hw
/-- A bent request is not the node's. -/
theorem takeV_bent {keys counts : List Int} {key : Int} {v : RQ} {l : List C5} {N e : Nat} {x : Int} (hm : mayR v) (hk : keys[N]? = some key) (he : e < (sealed key (encR v)).length) (hx : 0 ≤ x ∧ x < 256) (h0 : x ≠ 0) :
    ((takeV keys counts ((sealed key (encR v)).set e (ixor .u8 ((sealed key (encR v)).getD e 0) x)) l).1.2 = 0 → ((sealed key (encR v)).set e (ixor .u8 ((sealed key (encR v)).getD e 0) x)).getD 1 0 ≠ (N : Int)) ∧
    (takeV keys counts ((sealed key (encR v)).set e (ixor .u8 ((sealed key (encR v)).getD e 0) x)) l).2.getD N 0 = counts.getD N 0 := by
  have hw := bent_wrong key (encR_isB hm) he hx h0
  have hl : ((sealed key (encR v)).set e (ixor .u8 ((sealed key (encR v)).getD e 0) x)).length = 15 := by rw [List.length_set, sealed_len, encR_len]
  rw [encR_len] at hw
  generalize (sealed key (encR v)).set e (ixor .u8 ((sealed key (encR v)).getD e 0) x) = bs at *
  have ek : keys.getD N 0 = key := by rw [List.getD, hk]; rfl
  rw [F22.takeV_eq]
  by_cases h1 : (decR bs).2 ≠ 0
  · rw [if_pos h1]; exact ⟨fun h => absurd h h1, rfl⟩
  rw [if_neg h1]
  by_cases h2 : (decR bs).1.n ≥ (keys.length : Int)
  · rw [if_pos h2]; exact ⟨fun h => absurd h (show ¬(6 : Int) = 0 by decide), rfl⟩
  rw [if_neg h2]
  obtain ⟨q1, q2, q3, q4, q5, q6⟩ := decR_ok (Classical.not_not.1 h1)
  by_cases h3 : nb (tagB (keys.getD (decR bs).1.n.toNat 0) (bs.take (bs.length - 4))) ≠ (decR bs).1.t
  · rw [if_pos h3]; exact ⟨fun h => absurd h (show ¬(10 : Int) = 0 by decide), rfl⟩
  rw [if_neg h3]
  have hne : (decR bs).1.n ≠ (N : Int) := by
    intro c
    rw [c, Int.toNat_natCast, ek, hl, q4] at h3
    exact h3 hw
  by_cases h4 : (decR bs).1.c ≤ counts.getD (decR bs).1.n.toNat 0
  · rw [if_pos h4]; exact ⟨fun h => absurd h (show ¬(8 : Int) = 0 by decide), rfl⟩
  rw [if_neg h4]
  refine ⟨fun _ => by rw [← q2]; exact hne, ?_⟩
  have : ¬(decR bs).1.n.toNat = N := by rw [← q2] at q3; have := q3.1; omega
  simp only [List.getD]
  rw [List.getElem?_set_ne this]
/-- A copy, and one of its bytes bent. -/
theorem bend {H : Heap} {y : Option Addr} {j n : Nat} {ys : List Int} (cut x : Int) (hy : By H y n j ys) (hl0 : 0 < n) (hl : n ≤ 1000) : ∃ (k2 b o e : Nat) (H1 H2 H3 : Heap), H1 = H.push (.row [] true) ∧ papp H1 1 1 (some ⟨H.next, 0, none⟩) 0 (UNK 1) y n j = some ((some ⟨b, o, none⟩, n, k2), H2) ∧
    IntKind.wrap .i64 (Int.tmod (IntKind.wrap .u64 cut) (n : Int)) = (e : Int) ∧ e < n ∧ ldc H2 b (o + Int.toNat (e : Int) * 1) = some (.int .u8 (ys.getD e 0)) ∧ stc H2 b (o + Int.toNat (e : Int) * 1) [.int .u8 (ixor .u8 (ys.getD e 0) x)] = some H3 ∧
    OwnI .u8 H.next H3 (some ⟨b, o, none⟩) n k2 (ys.set e (ixor .u8 (ys.getD e 0) x)) ∧ Keep H.next H H3 := by
  obtain ⟨H1, e1, n1, g1, k1⟩ := one H []
  have o1 : OwnI .u8 H.next H1 (some ⟨H.next, 0, none⟩) 0 (UNK 1) [] := by rw [e1]; exact OwnI.new H []
  obtain ⟨a2, k2, H2, c2, o2, kp2⟩ := OwnI.app 1 o1 (hy.keep k1) (by omega) (by omega) (by omega)
  simp only [Nat.zero_add, List.nil_append] at c2 o2
  obtain ⟨e, em, he⟩ := modN cut n (by omega) (by omega)
  obtain ⟨b, o, rfl⟩ := o2.sl.at hl0
  have hll := hy.ln
  have hg : ys[e]? = some (ys.getD e 0) := getD_some (by omega)
  obtain ⟨H3, c3, o3, g3, n3⟩ := OwnI.putc' o2 (i := e) (by omega) (ixor .u8 (ys.getD e 0) x)
  exact ⟨k2, b, o, e, H1, H2, H3, e1, c2, em, by omega, Ints.get o2.sl hg, c3, o3, (k1.trans kp2).trans g3⟩
theorem encG_t (g : GV) (t : Int) : encG { g with t := t } = encG g := rfl
namespace F25
theorem ok {H : Heap} {a : Option Addr} {n k : Nat} {l : List C5} (hs : Cells H a n k l) (hn : n ≤ 1000000000) : ∃ (a' : Option Addr) (n' k' : Nat) (H' : Heap), Cc 25 [.slice a n k] H = some (.slice a' n' k', H') ∧ Cells H' a' n' k' (if cellsP l then l else []) ∧ Keep H.next H H' := by
  obtain ⟨H1, c1, k1⟩ := F23.ok hs hn
  by_cases h : cellsP l
  · refine ⟨a, n, k, H1, call ⟨_, _, c1, ?_⟩, by rw [if_pos h]; exact hs.keep k1, k1⟩
    rw [if_pos (decide_eq_true h)]
  · refine ⟨none, 0, 0, H1, call ⟨_, _, c1, ?_⟩, by rw [if_neg h]; exact ⟨rfl, .inl ⟨rfl, rfl, rfl⟩⟩, k1⟩
    rw [if_neg (by simpa using h)]
end F25
namespace F4
/-- The last steps: a grant is taken once. -/
theorem l6 {S R : Nat} {N c1 key a3 : Int} {g : Gr} {H : Heap} {y : Option Addr} {j : Nat} (gS : H.get S = .row (rowS N key c1 a3 true) true) (hS : S < H.next) (okg : GrOk H g) (hm : mayG g.v) (hn : g.v.n = N) (ha : g.v.a = a3) (hu : U32 a3) (ht : g.v.t = nb (tagB key (encG g.v)))
    (hy : By H y (sealed key (encG g.v)).length j (sealed key (encG g.v))) (hyS : ∀ b, In1 y b → b ≠ S) (gR : H.get R = .row g.cells true) (hR : R < H.next) (hRS : R ≠ S) (hgS : ∀ b, In1 g.sa b → b ≠ S) : ∃ H', L6 (some ⟨S, 0, none⟩) R 0 y (sealed key (encG g.v)).length j H (.bool true, H') := by
  have hb := sealed_isB (key := key) (encG_isB hm)
  have hl : (sealed key (encG g.v)).length ≤ 1000 := by have := hm.2.2.1; rw [sealed_len, encG_len]; omega
  obtain ⟨g1, H1, c1', ok1, v1, gS1, f1, ap1⟩ := F26.ok gS hS hy hb hl
  have ed := doneV_give (key := key) (n := N) (a := a3) hm (by rw [ha]; exact hu) hn ha
  rw [ed] at c1' v1 gS1
  simp only at v1 gS1
  obtain ⟨H3, s3, g3, k3, n3⟩ := fill H1 gr0.cells g1.cells rfl
  have n1 := f1.next
  have f3 : Chg (fun b => b = S) H H3 := f1.trans (k3.chg0 (S := fun b => b = S)) fun _ _ h => h
  have gS3 : H3.get S = .row (rowS N key c1 a3 false) true := by rw [k3.get _ (by omega)]; exact gS1
  obtain ⟨g4, H4, c4, ok4, v4, gS4, f4, _⟩ := F26.ok gS3 (by omega) (show By H3 y _ j _ from Sl.chg hy f3 hyS) hb hl
  have e4 : doneV N key a3 false (sealed key (encG g.v)) = ((gv0, 7), false) := if_pos rfl
  rw [e4] at c4
  obtain ⟨H6, s6, g6, k6, n6⟩ := fill H4 gr0.cells g4.cells rfl
  have n4 := f4.next
  have f36 : Chg (fun b => b = S) H3 H6 := f4.trans (k6.chg0 (S := fun b => b = S)) fun _ _ h => h
  have f06 := f3.trans f36 fun _ _ h => h
  have l1 : H6.get H1.next = .row g1.cells true := by rw [f36.get _ (by omega) (by omega)]; exact g3
  have lR : H6.get R = .row g.cells true := by rw [f06.get _ hR hRS]; exact gR
  have ok1' : GrOk H6 g1 := ⟨((ok1.keep k3).l).chg f36 fun b hb hh => by have := ap1 b hb; have hh : b = S := hh; omega, ok1.s⟩
  have okg' : GrOk H6 g := ⟨okg.l.chg f06 hgS, okg.s⟩
  obtain ⟨H7, c7, _⟩ := F18.ok ok1' okg'
  have ev : g1.v = g.v := by rw [v1, ← ht]
  rw [decide_eq_true ev] at c7
  obtain ⟨H8, c8, _⟩ := F8.ok H7
  refine ⟨H8, L6_step ⟨_, _, _, _, _, _, _, _, _, c1', _, rfl, H3, s3, _, _, _, _, _, _, _, _, _, c4, _, rfl, H6, s6, ?_⟩⟩
  rw [if_pos rfl]
  refine ⟨_, _, _, _, _, _, _, rldAll l1, _, _, _, _, _, _, _, rldAll lR, _, _, c7, ?_⟩
  rw [if_pos rfl, if_pos rfl]
  exact ⟨_, _, c8, rfl⟩
theorem l5 {S R : Nat} {N c1 key a3 cut x : Int} {g : Gr} {H : Heap} {y : Option Addr} {j : Nat} (hx : 0 ≤ x ∧ x < 256) (gS : H.get S = .row (rowS N key c1 a3 true) true) (hS : S < H.next) (okg : GrOk H g) (hm : mayG g.v) (hn : g.v.n = N) (ha : g.v.a = a3) (hu : U32 a3) (ht : g.v.t = nb (tagB key (encG g.v)))
    (hy : By H y (sealed key (encG g.v)).length j (sealed key (encG g.v))) (hyS : ∀ b, In1 y b → b ≠ S) (gR : H.get R = .row g.cells true) (hR : R < H.next) (hRS : R ≠ S) (hgS : ∀ b, In1 g.sa b → b ≠ S) : ∃ H', L5 cut x (some ⟨S, 0, none⟩) R 0 y (sealed key (encG g.v)).length j false H (.bool true, H') := by
  by_cases h0 : x = 0
  · obtain ⟨H', z⟩ := l6 gS hS okg hm hn ha hu ht hy hyS gR hR hRS hgS
    refine ⟨H', L5_step ?_⟩
    rw [if_neg (by decide), if_pos h0]
    exact z
  have hb := sealed_isB (key := key) (encG_isB hm)
  have hl : (sealed key (encG g.v)).length ≤ 1000 := by have := hm.2.2.1; rw [sealed_len, encG_len]; omega
  have hl0 : 0 < (sealed key (encG g.v)).length := by rw [sealed_len]; omega
  obtain ⟨k2, b, o, e, H1, H2, H3, e1, c2, em, he, ld, c3, o3, k03⟩ := bend cut x hy hl0 hl
  have hun : IntKind.wrap .u64 ((sealed key (encG g.v)).length : Int) = ((sealed key (encG g.v)).length : Int) := u64 (by omega) (by omega)
  have hg : (sealed key (encG g.v))[e]? = some ((sealed key (encG g.v)).getD e 0) := getD_some he
  have m3 := k03.next
  obtain ⟨b1, b2⟩ := doneV_bent (n := N) (key := key) (a := a3) (e := e) (x := x) hm he hx h0
  obtain ⟨g4, H4, c4, ok4, v4, gS4, f4, _⟩ := F26.ok (c := c1) (by rw [k03.get _ hS]; exact gS) (by omega) o3.sl (isB_set hb (xor8_b (hb.get hg) hx)) hl
  rw [b2] at gS4
  obtain ⟨H6, s6, g6, k6, n6⟩ := fill H4 gr0.cells g4.cells rfl
  have n4 := f4.next
  have f06 : Chg (fun b => b = S) H H6 := ((k03.chg0 (S := fun b => b = S)).trans f4 fun _ _ h => h).trans (k6.chg0 (S := fun b => b = S)) fun _ _ h => h
  have hn6 := f06.next
  obtain ⟨H', z⟩ := l6 (H := H6) (S := S) (R := R) (by rw [k6.get _ (by omega)]; exact gS4) (by omega) ⟨okg.l.chg f06 hgS, okg.s⟩ hm hn ha hu ht (show By H6 y _ j _ from Sl.chg hy f06 hyS) hyS (by rw [f06.get _ hR hRS]; exact gR) (by omega) hRS hgS
  refine ⟨H', L5_step ?_⟩
  rw [if_neg (by decide), if_neg h0]
  refine ⟨H1, e1, _, _, _, _, c2, ?_⟩
  rw [hun, em]
  refine ⟨by omega, b, o, rfl, by omega, by omega, _, ld, by omega, by omega, H3, c3, _, _, _, _, _, _, _, _, _, c4, _, rfl, H6, s6, ?_⟩
  rw [if_neg b1]
  exact z
theorem l4 {S R : Nat} {N c1 key a3 cut x : Int} {g : Gr} {H : Heap} (hx : 0 ≤ x ∧ x < 256) (gS : H.get S = .row (rowS N key c1 a3 true) true) (hS : S < H.next) (okg : GrOk H g) (hm : mayG g.v) (hn : g.v.n = N) (ha : g.v.a = a3) (hu : U32 a3) (ht : g.v.t = nb (tagB key (encG g.v)))
    (gR : H.get R = .row g.cells true) (hR : R < H.next) (hRS : R ≠ S) (hgS : ∀ b, In1 g.sa b → b ≠ S) : ∃ H', L4 key cut x (some ⟨S, 0, none⟩) R 0 false H (.bool true, H') := by
  obtain ⟨y, j, H1, c1', o1, k1⟩ := F11.ok key okg
  have e : giveB key g.v = sealed key (encG g.v) := if_pos hm
  rw [e, if_pos hm] at c1'
  rw [e] at o1
  have n1 := k1.next
  obtain ⟨H', z⟩ := l5 (cut := cut) (x := x) hx (by rw [k1.get _ hS]; exact gS) (by omega) (okg.keep k1) hm hn ha hu ht (show By H1 y _ j _ from o1.sl) (fun b hb => by have := (o1.lt hb).1; omega) (by rw [k1.get _ hR]; exact gR) (by omega) hRS hgS
  refine ⟨H', L4_step ?_⟩
  rw [if_neg (by simp)]
  refine ⟨_, _, _, _, _, _, _, rldAll gR, _, _, _, _, _, c1', ?_⟩
  rw [if_pos rfl, decide_eq_false (by rw [sealed_len, encG_len]; omega)]
  exact z
theorem l2 {H : Heap} {D : Nat} {ka ca : Option Addr} {kk ck : Nat} {keys counts : List Int} {S N : Nat} {key a3 cut x : Int} {v : RQ} {a4 x1 : Option Addr} {n4 k4 j1 : Nat} {l : List C5} (hx : 0 ≤ x ∧ x < 256) (hd : DK H D ka kk ca ck keys counts) (hk : keys[N]? = some key) (h0 : counts.getD N 0 = 0)
    (gS : H.get S = .row (rowS (N : Int) key 1 a3 true) true) (hS : S < H.next) (hSc : ¬In1 ca S) (hu : U32 a3) (hm : mayR v) (vn : v.n = (N : Int)) (va : v.a = a3) (vc : v.c = 1) (hy : By H x1 15 j1 (sealed key (encR v))) (hyc : ∀ b, In1 x1 b → ¬In1 ca b) (hc : Cells H a4 n4 k4 l) (hn4 : n4 ≤ 40) (hcc : ∀ b, In1 a4 b → ¬In1 ca b) :
    ∃ H', L2 (N : Int) key a3 a4 n4 k4 cut x (some ⟨D, 0, none⟩) (some ⟨S, 0, none⟩) x1 15 j1 H (.bool true, H') := by
  have hva : U32 v.a := by rw [va]; exact hu
  have hvc : U32 v.c := by rw [vc]; exact ⟨by decide, by decide⟩
  have hcl := hd.cl
  have hNk := (List.getElem?_eq_some_iff.1 hk).1
  have hcn : counts.length = keys.length := hd.cs.ln
  have t1 := takeV_ask (l := l) (counts := counts) hm hva hvc vn hk (by rw [h0, vc]; decide)
  have t2 := takeV_old (l := l) (counts := counts.set N v.c) hm hva hvc vn hk (by rw [List.getD, List.getElem?_set_self (by omega)]; exact Int.le_refl _)
  have gm := F22.given_may (r := ⟨v.n, v.p, v.a, v.c, nb (tagB key (encR v))⟩) (l := l) hm.1
  have gn := F22.given_n ⟨v.n, v.p, v.a, v.c, nb (tagB key (encR v))⟩ l
  have gd : (F22.given ⟨v.n, v.p, v.a, v.c, nb (tagB key (encR v))⟩ l).d = if cellsP l then 0 else 1 := by unfold F22.given; split <;> rfl
  have gl : (F22.given ⟨v.n, v.p, v.a, v.c, nb (tagB key (encR v))⟩ l).l = if cellsP l then l else [] := by unfold F22.given; split <;> rfl
  generalize F22.given ⟨v.n, v.p, v.a, v.c, nb (tagB key (encR v))⟩ l = gv at *
  have hb := sealed_isB (key := key) (encR_isB hm)
  obtain ⟨g1, H1, c1, ok1, v1, ap1, d1, f1⟩ := F22.ok (l := l) hd hy hb (by omega) hc (by omega) hcc
  rw [t1] at c1 v1 d1
  simp only at v1 d1
  obtain ⟨H3, s3, g3, k3, n3⟩ := fill H1 gr0.cells g1.cells rfl
  have n1 := f1.next
  have f03 : Chg (In1 ca) H H3 := f1.trans (k3.chg0 (S := In1 ca)) fun _ _ h => h
  obtain ⟨g4, H4, c4, ok4, v4, ap4, d4, f4⟩ := F22.ok (l := l) (d1.new k3) (show By H3 x1 15 j1 _ from Sl.chg hy f03 hyc) hb (by omega) (Sl.chg hc f03 hcc) (by omega) hcc
  rw [t2] at c4 v4 d4
  obtain ⟨H6, s6, g6, k6, n6⟩ := fill H4 gr0.cells g4.cells rfl
  have n4' := f4.next
  have f36 : Chg (In1 ca) H3 H6 := f4.trans (k6.chg0 (S := In1 ca)) fun _ _ h => h
  have f06 := f03.trans f36 fun _ _ h => h
  have hRc : ¬In1 ca H1.next := fun hh => by have := hcl _ hh; omega
  have lR : H6.get H1.next = .row g1.cells true := by rw [f36.get _ (by omega) hRc]; exact g3
  have hc6 : Cells H6 a4 n4 k4 l := Sl.chg hc f06 hcc
  obtain ⟨H7, c7, k7⟩ := F23.ok hc6 (by omega)
  obtain ⟨a8, n8, k8, H8, c8, cl8, kp8⟩ := F25.ok (hc6.keep k7) (by omega)
  have k68 := k7.th kp8
  have lR7 : H7.get H1.next = .row g1.cells true := by rw [k7.get _ (by omega)]; exact lR
  have n7 := k7.next
  have lR8 : H8.get H1.next = .row g1.cells true := by rw [k68.get _ (by omega)]; exact lR
  have ok8 : GrOk H8 g1 := GrOk.keep ⟨((ok1.keep k3).l).chg f36 (fun b hb hh => by have := ap1 b hb; have := hcl b hh; omega), ok1.s⟩ k68
  have n68 := k68.next
  have n06 := f06.next
  have gS8 : H8.get S = .row (rowS (N : Int) key 1 a3 true) true := by rw [k68.get _ (by omega), f06.get _ hS hSc]; exact gS
  have c9 := F24.ok ok8.l cl8 (by have := ok1.s; omega)
  have el : g1.v.l = if cellsP l then l else [] := by rw [v1]; exact gl
  rw [decide_eq_true el] at c9
  obtain ⟨H', z⟩ := l4 (cut := cut) (x := x) (R := H1.next) hx gS8 (by omega) ok8 (by rw [v1]; exact gm) (by rw [v1]; show gv.n = _; rw [gn.1]; exact vn) (by rw [v1]; show gv.a = _; rw [gn.2]; exact va) hu (by rw [v1, encG_t]; rfl) lR8 (by omega) (by omega) (fun b hb => by have := ap1 b hb; omega)
  refine ⟨H', L2_step ⟨_, _, _, _, _, _, _, _, _, c1, _, rfl, H3, s3, _, _, _, _, _, _, _, _, _, c4, _, rfl, H6, s6, ?_⟩⟩
  rw [if_pos rfl, if_pos rfl]
  refine ⟨_, rldc' lR 0, ?_⟩
  rw [if_pos (by rw [v1]; show gv.n = _; rw [gn.1]; exact vn)]
  refine ⟨_, rldc' lR 2, ?_⟩
  rw [if_pos (by rw [v1]; show gv.a = _; rw [gn.2]; exact va)]
  refine ⟨_, rldc' lR 1, _, _, c7, ?_⟩
  have ed : ((g1.v.d == 0) == decide (cellsP l)) = true := by
    rw [v1]; show ((gv.d == 0) == decide (cellsP l)) = true
    rw [gd]
    by_cases h : cellsP l
    · rw [if_pos h, decide_eq_true h]; rfl
    · rw [if_neg h, decide_eq_false h]; rfl
  rw [if_pos ed]
  exact ⟨_, _, _, rldc' lR7 3, _, _, _, _, c8, _, _, c9, rldc' lR7 1, rldc' lR8 3, z⟩
theorem l1 {H : Heap} {D : Nat} {ka ca : Option Addr} {kk ck : Nat} {keys counts : List Int} {S N : Nat} {key a3 cut x : Int} {v : RQ} {a4 x1 : Option Addr} {n4 k4 j1 : Nat} {l : List C5} (hx : 0 ≤ x ∧ x < 256) (hd : DK H D ka kk ca ck keys counts) (hk : keys[N]? = some key) (h0 : counts.getD N 0 = 0)
    (gS : H.get S = .row (rowS (N : Int) key 1 a3 true) true) (hS : S < H.next) (hSc : ¬In1 ca S) (hu : U32 a3) (hm : mayR v) (vn : v.n = (N : Int)) (va : v.a = a3) (vc : v.c = 1) (hy : By H x1 15 j1 (sealed key (encR v))) (hyc : ∀ b, In1 x1 b → ¬In1 ca b) (hc : Cells H a4 n4 k4 l) (hn4 : n4 ≤ 40) (hcc : ∀ b, In1 a4 b → ¬In1 ca b) :
    ∃ H', L1 (N : Int) key a3 a4 n4 k4 cut x (some ⟨D, 0, none⟩) (some ⟨S, 0, none⟩) x1 15 j1 false H (.bool true, H') := by
  by_cases hx0 : x = 0
  · obtain ⟨H', z⟩ := l2 (cut := cut) hx hd hk h0 gS hS hSc hu hm vn va vc hy hyc hc hn4 hcc
    refine ⟨H', L1_step ?_⟩
    rw [if_neg (by simp), if_pos hx0]
    exact z
  have hb := sealed_isB (key := key) (encR_isB hm)
  have hl : (sealed key (encR v)).length = 15 := by rw [sealed_len, encR_len]
  have hcl := hd.cl
  obtain ⟨k2, b, o, e, H1, H2, H3, e1, c2, em, he, ld, c3, o3, k03⟩ := bend cut x hy (by decide) (by decide)
  have em' : IntKind.wrap .i64 (Int.tmod (IntKind.wrap .u64 cut) 15) = (e : Int) := em
  have hg : (sealed key (encR v))[e]? = some ((sealed key (encR v)).getD e 0) := getD_some (by omega)
  have hb' := isB_set (i := e) hb (xor8_b (hb.get hg) hx)
  obtain ⟨b1, b2⟩ := takeV_bent (counts := counts) (l := l) (N := N) (e := e) (x := x) hm hk (by omega) hx hx0
  obtain ⟨g4, H4, c4, ok4, v4, ap4, d4, f4⟩ := F22.ok (l := l) (hd.new k03) o3.sl hb' (by omega) (hc.keep k03) (by omega) hcc
  obtain ⟨H6, s6, g6, k6, n6⟩ := fill H4 gr0.cells g4.cells rfl
  have n4' := f4.next
  have n3 := k03.next
  have f06 : Chg (In1 ca) H H6 := ((k03.chg0 (S := In1 ca)).trans f4 fun _ _ h => h).trans (k6.chg0 (S := In1 ca)) fun _ _ h => h
  have n06 := f06.next
  have o6 := (o3.chg f4 fun b hb hh => by have := (o3.lt hb).1; have := hcl b hh; omega).keep k6
  obtain ⟨H', z⟩ := l2 (cut := cut) hx (d4.new k6) hk (by rw [b2]; exact h0) (by rw [f06.get _ hS hSc]; exact gS) (by omega) hSc hu hm vn va vc (show By H6 x1 15 j1 _ from Sl.chg hy f06 hyc) hyc (show Cells H6 a4 n4 k4 l from Sl.chg hc f06 hcc) hn4 hcc
  refine ⟨H', L1_step ?_⟩
  rw [if_neg (by simp), if_neg hx0]
  refine ⟨H1, e1, _, _, _, _, c2, ?_⟩
  rw [em']
  refine ⟨b, o, rfl, by omega, by omega, _, ld, by omega, by omega, H3, c3, _, _, _, _, _, _, _, _, _, c4, _, rfl, H6, s6, ?_⟩
  generalize hbs : (sealed key (encR v)).set e (ixor .u8 ((sealed key (encR v)).getD e 0) x) = bs at *
  have hbl : bs.length = 15 := by rw [← hbs, List.length_set]; exact hl
  by_cases h : (takeV keys counts bs l).1.2 = 0
  · rw [if_pos h]
    have g1 : bs[1]? = some (bs.getD 1 0) := getD_some (by omega)
    have hg1 := hb'.get g1
    refine ⟨by omega, by omega, bs.getD 1 0, by simpa using Ints.get1 o6.sl g1, L3_step ?_⟩
    rw [i64 (by omega) (by omega), beq_dec, decide_eq_false (fun c => b1 h c.symm), if_neg (by simp)]
    exact z
  · rw [if_neg h]
    refine L3_step ?_
    rw [if_neg (by simp)]
    exact z
theorem ok {H : Heap} {p q key a3 cut x : Int} {a4 : Option Addr} {n4 k4 : Nat} {l : List C5} (hu : U32 a3) (hx : 0 ≤ x ∧ x < 256) (hc : Cells H a4 n4 k4 l) : ∃ H', Cc 4 [.int .i64 p, .int .i64 q, .int .u64 key, .int .u32 a3, .slice a4 n4 k4, .int .i64 cut, .int .u8 x] H = some (.bool true, H') := by
  obtain ⟨N, em, hN⟩ := modN p 16 (by decide) (by decide)
  obtain ⟨m, mm, hm⟩ := modN q 15 (by decide) (by decide)
  have e1 : IntKind.wrap .i64 ((N : Int) + 1) = (N : Int) + 1 := i64 (by omega) (by omega)
  have e2 : IntKind.wrap .i64 ((N : Int) + 1 + (m : Int)) = ((N + 1 + m : Nat) : Int) := by rw [i64 (by omega) (by omega)]; omega
  have e3 : Int.tmod ((N + 1 + m : Nat) : Int) 16 = ((((N + 1 + m) % 16 : Nat)) : Int) := by
    rw [Int.tmod_eq_emod_of_nonneg (by omega)]; omega
  generalize hP : (N + 1 + m) % 16 = P at e3
  have hP16 : P < 16 := by omega
  have hPN : P ≠ N := by omega
  have hN' : inP (N : Int) 0 15 := ⟨by omega, by omega⟩
  have hP' : inP (P : Int) 0 15 := ⟨by omega, by omega⟩
  let H1 := H.push (.row (zerosL [.int .u64 0] 16) true)
  have o1 : OwnI .u64 H.next H1 (some ⟨H.next, 0, none⟩) 16 (UNK 1) (List.replicate 16 0) := by
    have := OwnI.new (K := .u64) H (List.replicate 16 0)
    rw [List.length_replicate, List.map_replicate, ← zerosL1] at this
    exact this
  obtain ⟨H2, c2, o2, g2, n2⟩ := OwnI.putc' o1 (i := N) (by omega) key
  have hk : ((List.replicate 16 (0 : Int)).set N key)[N]? = some key := List.getElem?_set_self (by rw [List.length_replicate]; omega)
  have k2 : Keep H.next H H2 := (Keep.push _ (Nat.le_refl _)).trans g2
  have n02 : H2.next = H.next + 1 := n2
  obtain ⟨D, ka, ca, kk, ck, H3, c3, d3, hD, hka, hca, k3⟩ := F19.ok (show Ints .u64 H2 _ 16 (UNK 1) _ from o2.sl) (by decide) (by decide)
  generalize (List.replicate 16 (0 : Int)).set N key = keys at *
  obtain ⟨H4, c4, g4, n4', k4'⟩ := F20.ok (n := (N : Int)) key hN' H3
  have d4 := d3.new k4'
  have dl := d3.lt
  have hkl := d3.kl
  have hcl := d3.cl
  have k04 : Keep H.next H H4 := (k2.trans (k3.weak (by omega))).trans (k4'.weak (by have := k3.next; omega))
  have n3 := k3.next
  have aw : ∃ H', L0 (N : Int) (P : Int) key a3 a4 n4 k4 cut x (some ⟨D, 0, none⟩) (some ⟨H3.next, 0, none⟩) (decide ((n4 : Int) > 40)) H4 (.bool true, H') := by
    by_cases h : (n4 : Int) > 40
    · obtain ⟨H5, c5, _⟩ := F8.ok H4
      refine ⟨H5, L0_step ?_⟩
      rw [decide_eq_true h, if_pos rfl, if_pos h]
      exact ⟨_, _, c5, rfl⟩
    · obtain ⟨y, j, H5, c5, o5, gS5, f5⟩ := F21.ok (parent := (P : Int)) (a := a3) g4 (by omega) hN' hP' (by omega) (by decide)
      have hv : mayR ⟨(N : Int), (P : Int), a3, 0 + 1, 0⟩ := ⟨hN', hP', by show (N : Int) ≠ (P : Int); omega⟩
      generalize hvv : (⟨(N : Int), (P : Int), a3, 0 + 1, 0⟩ : RQ) = v at *
      have hl : (sealed key (encR v)).length = 15 := by rw [sealed_len, encR_len]
      rw [hl] at c5 o5
      have n5 := f5.next
      have hca' : ∀ b, In1 ca b → b < H3.next := hcl
      have d5 : DK H5 D ka kk ca ck keys (List.replicate 16 0) := d4.chg f5 (fun hh => by have hh : D = H3.next := hh; omega) (fun b hb hh => by have := hkl b hb; have hh : b = H3.next := hh; omega) fun b hb hh => by have := hcl b hb; have hh : b = H3.next := hh; omega
      have hc5 : Cells H5 a4 n4 k4 l := Sl.chg (show Cells H4 a4 n4 k4 l from hc.keep k04) f5 fun b hb hh => by have := Sl.lt hc hb; have hh : b = H3.next := hh; omega
      obtain ⟨H', z⟩ := l1 (cut := cut) (x := x) (S := H3.next) (v := v) (l := l) (a4 := a4) (n4 := n4) (k4 := k4) (x1 := y) (j1 := j) hx d5 hk (by rw [List.getD, List.getElem?_replicate]; split <;> rfl) gS5 (by omega) (fun hh => by have := hcl _ hh; omega) hu hv (by rw [← hvv]) (by rw [← hvv]) (by rw [← hvv]; rfl) o5.sl (fun b hb hh => by have := (o5.lt hb).1; have := hcl b hh; omega) hc5 (by omega) (fun b hb hh => by have := Sl.lt hc hb; have := hca b hh; omega)
      refine ⟨H', L0_step ?_⟩
      rw [decide_eq_false h, if_neg (by simp)]
      refine ⟨_, _, _, _, _, c5, ?_⟩
      rw [if_pos rfl, show (!(((15 : Nat) : Int) == 15)) = false from rfl]
      exact z
  obtain ⟨H', z⟩ := aw
  refine ⟨H', call ?_⟩
  rw [em, mm, e1, e2, e3]
  refine ⟨16, H1, pmk_eq (n := 16) (by_ := 8) (by decide) (by decide), rfl, by omega, by omega, H2, c2, _, _, c3, _, _, c4, ?_⟩
  rw [if_neg (by simp), if_neg (by simp)]
  exact z
abbrev TC5 : Ty := .strct (.pair (.int .i64) (.pair (.int .i64) (.pair (.int .i64) (.pair (.int .i64) (.pair (.int .i64) (.unit))))))
theorem cOf {H : Heap} {vs : List Value} (h : Holds H TC5 vs) : ∃ v : C5, vs = v.cells ∧ True := by
  obtain ⟨_, _, rfl, ⟨a, rfl, _⟩, _, _, rfl, ⟨b, rfl, _⟩, _, _, rfl, ⟨c, rfl, _⟩, _, _, rfl, ⟨d, rfl, _⟩, _, _, rfl, ⟨e, rfl, _⟩, rfl⟩ := h
  exact ⟨⟨a, b, c, d, e⟩, rfl, trivial⟩
theorem law {H : Heap} {ds : List (List Value)} (h : HoldsAll H [.int .i64, .int .i64, .int .u64, .int .u32, .slice TC5 40, .int .i64, .int .u8] ds) : ∃ H', Cc 4 (vals [.int .i64, .int .i64, .int .u64, .int .u32, .slice TC5 40, .int .i64, .int .u8] ds) H = some (.bool true, H') := by
  obtain ⟨d0, _, rfl, h0, h⟩ := h.cons
  obtain ⟨d1, _, rfl, h1, h⟩ := h.cons
  obtain ⟨d2, _, rfl, h2, h⟩ := h.cons
  obtain ⟨d3, _, rfl, h3, h⟩ := h.cons
  obtain ⟨d4, _, rfl, h4, h⟩ := h.cons
  obtain ⟨d5, _, rfl, h5, h⟩ := h.cons
  obtain ⟨d6, _, rfl, h6, h⟩ := h.cons
  obtain rfl := h.nil
  obtain ⟨p, rfl, _⟩ := h0.i
  obtain ⟨q, rfl, _⟩ := h1.i
  obtain ⟨key, rfl, _⟩ := h2.i
  obtain ⟨a, rfl, ha⟩ := h3.i
  obtain ⟨x, n, k, l, rfl, s, hl, hok, hb⟩ := Holds.recs (f := C5.cells) (Q := fun _ => True) (fun _ h => cOf h) h4
  obtain ⟨cut, rfl, _⟩ := h5.i
  obtain ⟨b, rfl, hx⟩ := h6.i
  exact ok (u32_wf ha) (u8_wf hx) s
end F4
end Go.X
