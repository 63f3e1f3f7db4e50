/- The law RouteWays. -/
import Derived.Test.YtdnokmjobpbhhaaXzLr5
import Derived.Test.YtdnokmjobpbhhaaXzTcW
set_option linter.unusedVariables false
set_option linter.unusedSimpArgs false
set_option maxRecDepth 20000
namespace Go.X
open Go Go.RowKit Go.Proofs
theorem Keep.reserve (H : Heap) (n : Nat) : Keep H.next H (X.reserve H n) := ⟨by rw [next_reserve]; omega, fun b hb => by rw [get_reserve, if_neg (by omega)]⟩
theorem Sl.ofRow {H : Heap} {b : Nat} {vs : List Value} {own : Bool} (h : H.get b = .row vs own) (hb : b < H.next) : Sl H 1 (some ⟨b, 0, none⟩) vs.length (UNK 1) vs :=
  ⟨by simp, .inr (.inr ⟨b, 0, rfl, rfl, hb, vs, own, h, by omega, by simp⟩)⟩
theorem Ints.get0 {K : IntKind} {H : Heap} {b o n k : Nat} {xs : List Int} {x : Int} (h : Ints K H (some ⟨b, o, none⟩) n k xs) (hx : xs[0]? = some x) : ldc H b o = some (.int K x) := by simpa using Ints.get h (i := 0) hx
theorem node0 : nodeP 0 := by decide
structure Way (way : List Int) (n : Int) (data : List Int) : Prop where
  path : pathP way
  two : 2 ≤ way.length
  less : way.length < 16
  zero : (0 : Int) ∉ way
  d1 : 1 ≤ data.length
  d2 : data.length ≤ 24
  n0 : 0 ≤ n
  n1 : n < 1000000
def upAt (way : List Int) (n : Int) (data : List Int) (life : Nat) (i : Nat) : PV := ⟨way.getD 0 0, 0, n, (life : Int) - (i : Int), way.take (i + 1), data⟩
def dnPath (way : List Int) : List Int := 0 :: way.reverse
def dnAt (way : List Int) (n : Int) (data : List Int) (i : Nat) : PV := ⟨0, way.getD 0 0, n, (way.length : Int) - (i : Int), dnPath way, data⟩
section
variable {way data : List Int} {n : Int} (w : Way way n data)
include w
theorem Way.node {j : Nat} (h : j < way.length) : nodeP (way.getD j 0) := w.path.1 _ (List.mem_of_getElem? (getD_some h))
theorem Way.nz {j : Nat} (h : j < way.length) : way.getD j 0 ≠ 0 := fun e => w.zero (by rw [← e]; exact List.mem_of_getElem? (getD_some h))
theorem Way.take {j : Nat} : pathP (way.take j) := ⟨fun x hx => w.path.1 x (List.mem_of_mem_take hx), w.path.2.1.sublist (List.take_sublist _ _), by have := w.path.2.2; simp; omega⟩
theorem Way.up {life i : Nat} (hl : life ≤ 15) (hi : i + 1 < way.length) (hle : i ≤ life) : upV (upAt way n data life i) (way.getD (i + 1) 0) = if life = i then (pv0, 11) else (upAt way n data life (i + 1), 0) := by
  have hm : mayP (upAt way n data life i) := ⟨w.node (by omega), node0, w.nz (by omega), ⟨w.n0, by have := w.n1; show n ≤ _; omega⟩, ⟨by show 0 ≤ (life : Int) - (i : Int); omega, by show (life : Int) - (i : Int) ≤ 15; omega⟩, w.take, ⟨by have := w.d1; show 1 ≤ (data.length : Int); omega, by have := w.d2; show (data.length : Int) ≤ 24; omega⟩⟩
  have hno := w.node hi
  by_cases e : life = i
  · have es := stepV_0 hm hno (show (life : Int) - (i : Int) = 0 by omega)
    rw [if_pos e]
    unfold upV; simp only [es]; rw [if_pos (.inl (by decide))]
  · have es := stepV_may hm hno (show ¬(life : Int) - (i : Int) = 0 by omega)
    rw [if_neg e]
    unfold upV; simp only [es]
    have hx := getD_some hi
    have hnm : way.getD (i + 1) 0 ∉ way.take (i + 1) := ((nodup_take_succ hx).1 (w.path.2.1.sublist (List.take_sublist _ _))).2
    rw [if_neg (fun c => by rcases c with c | c; exact c rfl; exact hnm c), if_neg (by show ¬16 ≤ (way.take (i + 1)).length; have := w.less; simp; omega)]
    show ((⟨_, _, _, _, way.take (i + 1) ++ [way.getD (i + 1) 0], _⟩ : PV), (0 : Int)) = _
    have et : way.take (i + 1) ++ [way.getD (i + 1) 0] = way.take (i + 1 + 1) := by rw [List.take_add_one (i := i + 1), hx]; rfl
    rw [et]
    unfold upAt
    congr 2
    show (life : Int) - (i : Int) - 1 = (life : Int) - ((i + 1 : Nat) : Int)
    omega
theorem Way.dnP : pathP (dnPath way) := by
  refine ⟨fun x hx => ?_, ?_, ?_⟩
  · rcases List.mem_cons.1 hx with rfl | hx
    · exact node0
    · exact w.path.1 x (List.mem_reverse.1 hx)
  · refine List.nodup_cons.2 ⟨fun h => w.zero (List.mem_reverse.1 h), (List.reverse_perm way).nodup_iff.2 w.path.2.1⟩
  · have := w.less; simp [dnPath]; omega
theorem Way.may {i : Nat} (hi : i ≤ way.length) : mayP (dnAt way n data i) :=
  ⟨node0, w.node (by have := w.two; omega), fun e => w.nz (j := 0) (by have := w.two; omega) e.symm, ⟨w.n0, by have := w.n1; show n ≤ _; omega⟩, ⟨by show 0 ≤ (way.length : Int) - (i : Int); omega, by have := w.less; show (way.length : Int) - (i : Int) ≤ 15; omega⟩, w.dnP, ⟨by have := w.d1; show 1 ≤ (data.length : Int); omega, by have := w.d2; show (data.length : Int) ≤ 24; omega⟩⟩
theorem Way.ixd {i : Nat} (hi : i ≤ way.length) : ix (dnPath way) ((dnPath way).getD i 0) = (i : Int) := ix_nodup _ _ _ w.dnP.2.1 (getD_some (by simp [dnPath]; omega))
theorem Way.dno {i : Nat} (hi : i ≤ way.length) : nodeP ((dnPath way).getD i 0) := w.dnP.1 _ (List.mem_of_getElem? (getD_some (by simp [dnPath]; omega)))
theorem Way.down {i : Nat} (hi : i < way.length) : downV (dnAt way n data i) ((dnPath way).getD i 0) = (dnAt way n data (i + 1), (dnPath way).getD (i + 1) 0, 0) := by
  have es := stepV_may (w.may (i := i) (by omega)) (w.dno (i := i) (by omega)) (show ¬(way.length : Int) - (i : Int) = 0 by omega)
  unfold downV; simp only [es]
  have hx := w.ixd (i := i) (by omega)
  show (if (0 : Int) ≠ 0 then _ else if ix (dnPath way) _ < 0 ∨ ix (dnPath way) _ = ((dnPath way).length : Int) - 1 then _ else ((⟨_, _, _, _, _, _⟩ : PV), (dnPath way).getD (ix (dnPath way) _ + 1).toNat 0, (0 : Int))) = _
  rw [hx, if_neg (by decide), if_neg (by simp [dnPath]; omega), show ((i : Int) + 1).toNat = i + 1 by omega]
  unfold dnAt
  congr 2
  show (way.length : Int) - (i : Int) - 1 = (way.length : Int) - ((i + 1 : Nat) : Int)
  omega
theorem Way.end1 : (downV (dnAt way n data way.length) ((dnPath way).getD way.length 0)).2.2 = 11 := by
  have es := stepV_0 (w.may (Nat.le_refl _)) (w.dno (Nat.le_refl _)) (show (way.length : Int) - (way.length : Int) = 0 by omega)
  unfold downV; simp only [es]; rw [if_pos (by decide)]
theorem Way.end2 : (downV { dnAt way n data way.length with l := 1 } ((dnPath way).getD way.length 0)).2.2 = 6 := by
  have hm : mayP { dnAt way n data way.length with l := 1 } := by
    obtain ⟨h1, h2, h3, h4, _, h6, h7⟩ := w.may (Nat.le_refl way.length)
    exact ⟨h1, h2, h3, h4, ⟨show (0 : Int) ≤ 1 by decide, show (1 : Int) ≤ 15 by decide⟩, h6, h7⟩
  have es := stepV_may hm (w.dno (Nat.le_refl _)) (show ¬(1 : Int) = 0 by decide)
  unfold downV; simp only [es]
  have hx := w.ixd (Nat.le_refl _)
  show (if (0 : Int) ≠ 0 then _ else if ix (dnPath way) _ < 0 ∨ ix (dnPath way) _ = ((dnPath way).length : Int) - 1 then _ else ((⟨_, _, _, _, _, _⟩ : PV), (dnPath way).getD (ix (dnPath way) _ + 1).toNat 0, (0 : Int))).2.2 = _
  rw [if_neg (by decide), if_pos (.inr (by rw [hx]; simp [dnPath]))]
end
namespace F5
variable {G : Heap} {b0 o0 k0 : Nat} {a2 : Option Addr} {n2 k2 : Nat} {way data : List Int} {nn : Int} {P : Nat}
theorem dn_get {i : Nat} (hi : i < way.length) : (dnPath way).getD (i + 1) 0 = way.getD (way.length - 1 - i) 0 := by
  unfold dnPath
  simp only [List.getD_cons_succ]
  rw [List.getD, List.getElem?_reverse hi]; rfl
theorem l3 (hw : Ints .i64 G (some ⟨b0, o0, none⟩) way.length k0 way) (w : Way way nn data) (hP : G.next ≤ P) : ∀ (d i : Nat) (H : Heap) (p : Pk), i + d = way.length → Keep G.next G H → H.get P = .row p.cells true → P < H.next → PkOk H p → (∀ b, In1 p.pa b ∨ In1 p.da b → b ≠ P) → p.v = dnAt way nn data i →
    ∃ H', L3 b0 o0 way.length k0 P 0 ((dnPath way).getD i 0) (way.length : Int) (i : Int) H (.bool true, H') := by
  have h2 := w.two
  have h16 := w.less
  intro d
  induction d with
  | zero =>
    intro i H p hi hk g hlt hp hap hv
    have e : i = way.length := by omega
    subst e
    obtain ⟨q, H4, c4, _, _, p4⟩ := F26.ok hp ((dnPath way).getD way.length 0)
    obtain ⟨H5, e5, n5, g5, k5⟩ := one H4 pk0.cells
    have hn4 := p4.next
    let X6 := H5.set H4.next (.row q.cells true)
    have w6 : stc H5 H4.next 0 q.cells = some X6 := rstAll g5 rfl
    have kx6 : Keep H4.next H4 X6 := k5.trans (Keep.set _ (Nat.le_refl _))
    have g6 : X6.get P = .row p.cells true := by rw [kx6.get _ (by omega), p4.get _ (by omega)]; exact g
    have nx6 : X6.next = H4.next + 1 := n5
    let p1 : Pk := { p with v := { p.v with l := 1 } }
    let X7 := X6.set P (.row p1.cells true)
    have w7 : stc X6 P 3 [.int .i64 1] = some X7 := rstc' g6 (i := 3) (by simp) _
    have g7 : X7.get P = .row p1.cells true := by simp [X7]
    have hp6 := (hp.keep p4).keep kx6
    have hp7 : PkOk X7 p1 := by
      obtain ⟨x1, x2, x3, x4⟩ := hp6
      exact ⟨x1.chg (chgSet' _) fun b hb => hap b (.inl hb), x2.chg (chgSet' _) fun b hb => hap b (.inr hb), x3, x4⟩
    obtain ⟨q2, H8, c8, _, _, p8⟩ := F26.ok hp7 ((dnPath way).getD way.length 0)
    obtain ⟨H9, e9, n9, g9, k9⟩ := one H8 pk0.cells
    have hn8 := p8.next
    let X10 := H9.set H8.next (.row q2.cells true)
    have w10 : stc H9 H8.next 0 q2.cells = some X10 := rstAll g9 rfl
    have kx10 : Keep H8.next H8 X10 := k9.trans (Keep.set _ (Nat.le_refl _))
    have nG := hk.next
    have kk : Keep G.next G X10 := ((((hk.trans (p4.weak nG)).trans (kx6.weak (by omega))).trans (Keep.set (.row p1.cells true) hP)).trans (p8.weak (by show G.next ≤ X6.next; omega))).trans (kx10.weak (by have : X7.next = X6.next := rfl; omega))
    obtain ⟨H', c, _⟩ := F20.ok X10
    have hx := getD_some (xs := way) (j := 0) (by omega)
    refine ⟨H', L3_step ?_⟩
    rw [if_neg (by omega)]
    refine ⟨_, _, _, _, _, _, _, _, _, _, rldAll g, _, _, _, _, _, _, _, _, _, _, _, _, _, c4, _, e5, X6, w6, X7, w7, _, _, _, _, _, _, _, _, _, _, rldAll g7, _, _, _, _, _, _, _, _, _, _, _, _, _, c8, _, e9, X10, w10, by omega, by omega, _, by simpa using Ints.get (hw.keep kk) (i := 0) hx, ?_⟩
    rw [if_pos (by
      have := dn_get (way := way) (i := way.length - 1) (by omega)
      rw [show way.length - 1 + 1 = way.length by omega, show way.length - 1 - (way.length - 1) = 0 by omega] at this
      exact this), if_pos (by rw [hv]; exact w.end1), if_pos (by show (downV { p.v with l := 1 } _).2.2 = 6; rw [hv]; exact w.end2)]
    exact ⟨_, _, c, rfl⟩
  | succ d ih =>
    intro i H p hi hk g hlt hp hap hv
    obtain ⟨q, H4, c4, hq, o4, p4⟩ := F26.ok hp ((dnPath way).getD i 0)
    rw [hv, w.down (by omega)] at c4 hq
    simp only at c4 hq
    obtain ⟨H5, e5, n5, g5, k5⟩ := one H4 pk0.cells
    have hn4 := p4.next
    have nG := hk.next
    let X6 := H5.set H4.next (.row q.cells true)
    have w6 : stc H5 H4.next 0 q.cells = some X6 := rstAll g5 rfl
    have gq6 : X6.get H4.next = .row q.cells true := by simp [X6]
    have kx6 : Keep H4.next H4 X6 := k5.trans (Keep.set _ (Nat.le_refl _))
    have g6 : X6.get P = .row p.cells true := by rw [kx6.get _ (by omega), p4.get _ (by omega)]; exact g
    have nx6 : X6.next = H4.next + 1 := n5
    have k6 : Keep G.next G X6 := (hk.trans (p4.weak nG)).trans (kx6.weak (by omega))
    let X7 := X6.set P (.row q.cells true)
    have w7 : stc X6 P 0 q.cells = some X7 := rstAll g6 rfl
    have o7 : PkOwn H.next X7 q := (o4.keep kx6).set hlt _
    obtain ⟨H', z⟩ := ih (i + 1) X7 q (by omega) (k6.trans (Keep.set _ hP)) (by simp [X7]) (by show P < X6.next; omega) o7.ok (fun b hb => by
      rcases hb with hb | hb
      · have := (o7.path.lt hb).1; omega
      · have := (o7.data.lt hb).1; omega) hq
    have e1 : IntKind.wrap .i64 (IntKind.wrap .i64 ((way.length : Int) - 1) - (i : Int)) = ((way.length - 1 - i : Nat) : Int) := by rw [i64 (n := (way.length : Int) - 1) (by omega) (by omega), i64 (by omega) (by omega)]; omega
    have hx := getD_some (xs := way) (j := way.length - 1 - i) (by omega)
    refine ⟨H', L3_step ?_⟩
    rw [if_pos (by omega)]
    refine ⟨_, _, _, _, _, _, _, _, _, _, rldAll g, _, _, _, _, _, _, _, _, _, _, _, _, _, c4, _, e5, X6, w6, ?_⟩
    rw [if_pos rfl, e1]
    refine ⟨by omega, by omega, _, Ints.get (hw.keep k6) hx, ?_⟩
    rw [if_pos (dn_get (by omega))]
    refine ⟨_, rldc' gq6 3, L4_step ?_⟩
    have e2 : IntKind.wrap .i64 (IntKind.wrap .i64 ((way.length : Int) - (i : Int)) - 1) = q.v.l := by
      rw [i64 (n := (way.length : Int) - (i : Int)) (by omega) (by omega), i64 (by omega) (by omega), hq]
      show _ = (way.length : Int) - ((i + 1 : Nat) : Int)
      omega
    rw [e2, if_neg (by simp), i64 (by omega) (by omega)]
    exact ⟨_, _, _, _, _, _, _, _, _, _, rldAll gq6, X7, w7, by exact_mod_cast z⟩
theorem l1 {life : Nat} (hw : Ints .i64 G (some ⟨b0, o0, none⟩) way.length k0 way) (hd2 : Ints .u8 G a2 data.length k2 data) (w : Way way nn data) (hl : life ≤ 15) (hP : G.next ≤ P) {a5 : Option Addr} {k5 : Nat} (h5 : Ints .i64 G a5 (way.length - 1) k5 (way.drop 1)) : ∀ (d i : Nat) (H : Heap) (p : Pk), i + d = way.length - 1 → i ≤ life → Keep G.next G H → H.get P = .row p.cells true → P < H.next → PkOk H p → p.v = upAt way nn data life i →
    ∃ H', L1 b0 o0 way.length k0 (life : Int) a2 data.length k2 nn P 0 a5 (way.length - 1) k5 (((way.length - 1 : Nat) : Int)) (i : Int) H (.bool true, H') := by
  have h2 := w.two
  have h16 := w.less
  intro d
  induction d with
  | zero =>
    intro i H p hi hle hk g hlt hp hv
    have e : i = way.length - 1 := by omega
    have nG := hk.next
    have kr := Keep.reserve H 15
    have nr : (reserve H 15).next = H.next + 15 := next_reserve H 15
    have gr : (reserve H 15).get P = .row p.cells true := by rw [kr.get _ hlt]; exact g
    have hpr := hp.keep kr
    obtain ⟨a7, k7, H7, c7, o7, p7⟩ := F21.ok hpr.path (by have := hp.ps; omega)
    have hpath : p.v.path = way := by rw [hv]; show way.take (i + 1) = way; rw [List.take_of_length_le (by omega)]
    have ebk : backL p.v.path = way.reverse := by rw [hpath]; exact if_pos w.path
    rw [ebk, List.length_reverse] at c7 o7
    have nn7 := p7.next
    let X8 := H7.set (H.next + 6) (.row [.int .i64 0] true)
    have gx8 : X8.get (H.next + 6) = .row [.int .i64 0] true := by simp [X8]
    have ox8 : OwnI .i64 (H.next + 6) X8 (some ⟨H.next + 6, 0, none⟩) 1 (UNK 1) [0] := ⟨rfl, .inr ⟨H.next + 6, 0, [.int .i64 0], rfl, rfl, Nat.le_refl _, by show _ < H7.next; omega, gx8, by simp, by simp⟩⟩
    have o78 : OwnI .i64 (reserve H 15).next X8 a7 way.length k7 way.reverse := o7.chg (chgSet' _) fun b hb e => by have := (o7.lt hb).1; have e : b = H.next + 6 := e; omega
    obtain ⟨a9, k9, H9, c9, o9, g9, f9⟩ := Own.append' (by_ := 8) ox8 o78.sl (by decide) (by show _ ≤ H7.next; omega) (by omega) (by omega)
    let D : Pk := ⟨dnAt way nn data 0, a9, k9, a2, k2⟩
    have hD : D.v.path.length = 1 + way.length := by show (dnPath way).length = _; simp [dnPath]; omega
    have c9' : papp X8 1 8 (some ⟨H.next + 6, 0, none⟩) 1 (UNK 1) a7 way.length k7 = some ((a9, D.v.path.length, k9), H9) := by rw [hD]; exact c9
    let X10 := H9.set (H.next + 13) (.row pk0.cells true)
    let X11 := X10.set (H.next + 13) (.row D.cells true)
    have gx10 : X10.get (H.next + 13) = .row pk0.cells true := by simp [X10]
    have w11 : stc X10 (H.next + 13) 0 D.cells = some X11 := rstAll gx10 rfl
    have n89 : X8.next ≤ H9.next := g9.next
    have n78 : X8.next = H7.next := rfl
    have k7H : Keep G.next G H7 := (hk.trans (kr.weak nG)).trans (p7.weak (by omega))
    have k9H : Keep G.next G H9 := (k7H.trans (Keep.set _ (by omega))).trans (g9.keep (by omega) fun b _ hb => by have := In1.eq.1 hb; omega)
    have k11 : Keep G.next G X11 := (k9H.trans (Keep.set _ (by omega))).trans (Keep.set _ (by omega))
    have n11 : X11.next = H9.next := rfl
    have la9 : ∀ b, In1 a9 b → b ≠ H.next + 13 := fun b hb e => by
      rcases f9 b hb with h | h
      · have := In1.eq.1 h; omega
      · omega
    have o11 : Ints .i64 X11 a9 D.v.path.length k9 D.v.path := by
      have e9 : Sl H9 1 a9 (1 + way.length) k9 ((dnPath way).map (Value.int .i64)) := o9.sl
      rw [hD]
      exact (e9.chg (chgSet' _) fun b hb e => la9 b hb e).chg (chgSet' _) fun b hb e => la9 b hb e
    have hDo : PkOk X11 D := ⟨o11, hd2.keep k11, by rw [hD]; omega, by have := w.d2; show data.length ≤ _; omega⟩
    obtain ⟨H', z⟩ := l3 (P := H.next + 13) hw w (by omega) way.length 0 X11 D (by omega) k11 (by simp [X11]) (by omega) hDo (fun b hb => by
      rcases hb with hb | hb
      · exact la9 b hb
      · have := hd2.lt hb; omega) rfl
    have hx := getD_some (xs := way) (j := 0) (by omega)
    have kr0 := hk.trans (kr.weak nG)
    have k8H : Keep G.next G X8 := k7H.trans (Keep.set _ (by omega))
    refine ⟨H', L1_step ?_⟩
    rw [if_neg (by omega)]
    refine ⟨by omega, by omega, _, Ints.get0 (hw.keep kr0) hx, _, _, _, rldc' gr 4, _, _, _, _, c7, _, _, _, _, c9', X11, w11, Ints.get0 (hw.keep k7H) hx, Ints.get0 (hw.keep k9H) hx, ?_⟩
    exact z
  | succ d ih =>
    intro i H p hi hle hk g hlt hp hv
    have nG := hk.next
    obtain ⟨b5, o5, rfl⟩ := h5.at (by omega)
    have hx5 : (way.drop 1)[i]? = some (way.getD (i + 1) 0) := by rw [List.getElem?_drop, Nat.add_comm 1]; exact getD_some (by omega)
    obtain ⟨q, H4, c4, hq, o4, p4⟩ := F24.ok hp (way.getD (i + 1) 0)
    rw [hv, w.up hl (by omega) hle] at c4 hq
    obtain ⟨H5, e5, n5, g5, k5⟩ := one H4 pk0.cells
    have hn4 := p4.next
    let X6 := H5.set H4.next (.row q.cells true)
    have w6 : stc H5 H4.next 0 q.cells = some X6 := rstAll g5 rfl
    have gq6 : X6.get H4.next = .row q.cells true := by simp [X6]
    have kx6 : Keep H4.next H4 X6 := k5.trans (Keep.set _ (Nat.le_refl _))
    have g6 : X6.get P = .row p.cells true := by rw [kx6.get _ (by omega), p4.get _ (by omega)]; exact g
    have nx6 : X6.next = H4.next + 1 := n5
    have k6 : Keep G.next G X6 := (hk.trans (p4.weak nG)).trans (kx6.weak (by omega))
    have q6 := o4.keep kx6
    by_cases hli : life = i
    · rw [if_pos hli] at c4
      obtain ⟨H', c, _⟩ := F20.ok X6
      refine ⟨H', L1_step ?_⟩
      rw [if_pos (by omega)]
      refine ⟨b5, o5, rfl, by omega, by omega, _, Ints.get (h5.keep hk) hx5, _, _, _, _, _, _, _, _, _, _, rldAll g, _, _, _, _, _, _, _, _, _, _, _, _, c4, _, e5, X6, w6, ?_⟩
      rw [if_pos (by omega), if_pos rfl]
      exact ⟨_, _, c, rfl⟩
    · rw [if_neg hli] at c4 hq
      simp only at hq
      let X7 := X6.set P (.row q.cells true)
      have w7 : stc X6 P 0 q.cells = some X7 := rstAll g6 rfl
      have o7 : PkOwn H.next X7 q := q6.set hlt _
      obtain ⟨H', z⟩ := ih (i + 1) X7 q (by omega) (by omega) (k6.trans (Keep.set _ hP)) (by simp [X7]) (by show P < X6.next; omega) o7.ok hq
      obtain ⟨a8, m8, c8, s8⟩ := Ints.part (hw.keep k6) none (some ((i + 2 : Nat) : Int)) 0 (i + 2) (.inl ⟨rfl, rfl⟩) (.inr rfl) (Nat.zero_le _) (by omega)
      rw [Nat.sub_zero] at c8 s8
      rw [List.drop_zero] at s8
      have e2 : IntKind.wrap .i64 (IntKind.wrap .i64 ((life : Int) - (i : Int)) - 1) = q.v.l := by
        rw [i64 (n := (life : Int) - (i : Int)) (by omega) (by omega), i64 (by omega) (by omega), hq]
        show _ = (life : Int) - ((i + 1 : Nat) : Int)
        omega
      have e3 : IntKind.wrap .i64 ((i : Int) + 2) = ((i + 2 : Nat) : Int) := by rw [i64 (by omega) (by omega)]; rfl
      have qp : q.v.path = way.take (i + 2) := by rw [hq]; rfl
      refine ⟨H', L1_step ?_⟩
      rw [if_pos (by omega)]
      refine ⟨b5, o5, rfl, by omega, by omega, _, Ints.get (h5.keep hk) hx5, _, _, _, _, _, _, _, _, _, _, rldAll g, _, _, _, _, _, _, _, _, _, _, _, _, c4, _, e5, X6, w6, ?_⟩
      rw [if_neg (by omega), if_pos rfl]
      refine ⟨_, rldc' gq6 3, ?_⟩
      rw [if_pos e2.symm, e3]
      refine ⟨_, _, _, rldc' gq6 4, _, _, _, c8, _, _, F25.ok q6.path.sl s8 (by have := q6.ps; omega), ?_⟩
      rw [if_pos (by simp [qp])]
      refine ⟨_, rldc' gq6 2, ?_⟩
      rw [if_pos (by rw [hq]; rfl)]
      refine ⟨_, _, _, rldc' gq6 5, _, q6.data.sl.str, _, (hd2.keep k6).str, L2_step ?_⟩
      rw [if_neg (by rw [hq]; simp [upAt]), i64 (by omega) (by omega)]
      exact ⟨_, _, _, _, _, _, _, _, _, _, rldAll gq6, X7, w7, by exact_mod_cast z⟩
theorem ok {H : Heap} {a0 a2 : Option Addr} {n0 k0 n2 k2 : Nat} {way data : List Int} (hw : Ints .i64 H a0 n0 k0 way) (hd : Ints .u8 H a2 n2 k2 data) (hn : n0 ≤ 140737488355328) (a1 a3 : Int) : ∃ H', Cr 5 [.slice a0 n0 k0, .int .i64 a1, .slice a2 n2 k2, .int .i64 a3] H = some (.bool true, H') := by
  have l0' := hw.ln
  have l2' := hd.ln
  subst l0' l2'
  obtain ⟨life, el, hl⟩ := modN a1 16 (by decide) (by decide)
  obtain ⟨nn, en, hnn⟩ := modN a3 1000000 (by decide) (by decide)
  have aw : ∃ H', L0 a0 way.length k0 a1 a2 data.length k2 a3 true H (.bool true, H') := by
    obtain ⟨H', c, _⟩ := F20.ok H
    refine ⟨H', L0_step ?_⟩
    rw [if_pos rfl]
    exact ⟨_, _, c, rfl⟩
  obtain ⟨HA, za⟩ := aw
  by_cases hp : ¬pathP way
  · refine ⟨HA, call ⟨_, _, F22.ok hw hn, ?_⟩⟩
    rw [if_neg (by simpa using hp)]; exact za
  replace hp := Classical.not_not.1 hp
  by_cases h2 : (way.length : Int) < 2
  · refine ⟨HA, call ⟨_, _, F22.ok hw hn, ?_⟩⟩
    rw [if_pos (by simpa using hp), if_pos h2]; exact za
  by_cases d1 : (data.length : Int) < 1
  · refine ⟨HA, call ⟨_, _, F22.ok hw hn, ?_⟩⟩
    rw [if_pos (by simpa using hp), if_neg h2, if_pos d1]; exact za
  by_cases d2 : (data.length : Int) > 24
  · refine ⟨HA, call ⟨_, _, F22.ok hw hn, ?_⟩⟩
    rw [if_pos (by simpa using hp), if_neg h2, if_neg d1, if_pos d2]; exact za
  by_cases h0 : ix way 0 ≥ 0
  · refine ⟨HA, call ⟨_, _, F22.ok hw hn, ?_⟩⟩
    rw [if_pos (by simpa using hp), if_neg h2, if_neg d1, if_neg d2]
    refine ⟨_, _, F23.ok hw hn _, ?_⟩
    rw [if_pos h0]; exact za
  by_cases h16 : (way.length : Int) ≥ 16
  · refine ⟨HA, call ⟨_, _, F22.ok hw hn, ?_⟩⟩
    rw [if_pos (by simpa using hp), if_neg h2, if_neg d1, if_neg d2]
    refine ⟨_, _, F23.ok hw hn _, ?_⟩
    rw [if_neg h0, decide_eq_true h16]; exact za
  have w : Way way (nn : Int) data := ⟨hp, by omega, by omega, fun h => h0 ((ix_mem _ _).2 h), by omega, by omega, by omega, hnn⟩
  obtain ⟨b0, o0, rfl⟩ := hw.at (by omega)
  have kr := Keep.reserve H 13
  have nr : (reserve H 13).next = H.next + 13 := next_reserve H 13
  have hx := getD_some (xs := way) (j := 0) (by omega)
  let X1 := (reserve H 13).set (H.next + 8) (.row [.int .i64 (way.getD 0 0)] true)
  let X2 := X1.set (H.next + 11) (.row pk0.cells true)
  let p : Pk := ⟨upAt way nn data life 0, some ⟨H.next + 8, 0, none⟩, UNK 1, a2, k2⟩
  let X3 := X2.set (H.next + 11) (.row p.cells true)
  have g2 : X2.get (H.next + 11) = .row pk0.cells true := by simp [X2]
  have hpl : p.v.path = [way.getD 0 0] := by
    show way.take (0 + 1) = _
    rw [List.take_add_one, hx]; rfl
  have w3 : stc X2 (H.next + 11) 0 p.cells = some X3 := rstAll g2 rfl
  have k3 : Keep H.next H X3 := ((kr.trans (Keep.set _ (by omega))).trans (Keep.set _ (by omega))).trans (Keep.set _ (by omega))
  have n3 : X3.next = H.next + 13 := nr
  have g8 : X3.get (H.next + 8) = .row [.int .i64 (way.getD 0 0)] true := by
    show (((reserve H 13).set _ _).set _ _ |>.set _ _).get _ = _
    rw [Heap.get_set_ne _ _ _ _ (by omega), Heap.get_set_ne _ _ _ _ (by omega)]; simp
  have sp : Ints .i64 X3 (some ⟨H.next + 8, 0, none⟩) p.v.path.length (UNK 1) p.v.path := by
    rw [hpl]; exact Sl.ofRow g8 (by omega)
  have hpo : PkOk X3 p := ⟨sp, hd.keep k3, by rw [hpl]; simp, by have := w.d2; show data.length ≤ _; omega⟩
  obtain ⟨a5, k5, c5, s5⟩ := Ints.part hw (some ((1 : Nat) : Int)) none 1 way.length (.inr rfl) (.inl ⟨rfl, rfl⟩) (by omega) (Nat.le_refl _)
  rw [List.take_of_length_le (by simp)] at s5
  obtain ⟨H', z⟩ := l1 (P := H.next + 11) (life := life) (nn := (nn : Int)) hw hd w (by omega) (by omega) s5 (way.length - 1) 0 X3 p (by omega) (by omega) k3 (by simp [X3]) (by omega) hpo rfl
  refine ⟨H', call ⟨_, _, F22.ok hw hn, ?_⟩⟩
  rw [if_pos (by simpa using hp), if_neg h2, if_neg d1, if_neg d2]
  refine ⟨_, _, F23.ok hw hn _, ?_⟩
  rw [if_neg h0, decide_eq_false h16]
  refine L0_step ?_
  rw [if_neg (by simp), el, en]
  have hl1 : p.v.path.length = 1 := by rw [hpl]; rfl
  have w3' : stc X2 (H.next + 11) 0 [.int .i64 (way.getD 0 0), .int .i64 0, .int .i64 (nn : Int), .int .i64 (life : Int), .slice (some ⟨H.next + 8, 0, none⟩) 1 (UNK 1), .slice a2 data.length k2] = some X3 := by
    rw [← w3]
    show _ = stc X2 (H.next + 11) 0 [.int .i64 (way.getD 0 0), .int .i64 0, .int .i64 (nn : Int), .int .i64 ((life : Int) - ((0 : Nat) : Int)), .slice (some ⟨H.next + 8, 0, none⟩) p.v.path.length (UNK 1), .slice a2 data.length k2]
    rw [hl1, show (life : Int) - ((0 : Nat) : Int) = (life : Int) by omega]
  refine ⟨b0, o0, rfl, by omega, by omega, _, by simpa using Ints.get (hw.keep kr) (i := 0) hx, by omega, by omega, _, by simpa using Ints.get (hw.keep kr) (i := 0) hx, X3, w3', _, _, _, c5, ?_⟩
  exact z
theorem law {H : Heap} {ds : List (List Value)} (h : HoldsAll H [.slice (.int .i64) 8, .int .i64, .slice (.int .u8) 1, .int .i64] ds) : ∃ H', Cr 5 (vals [.slice (.int .i64) 8, .int .i64, .slice (.int .u8) 1, .int .i64] ds) H = some (.bool true, H') := by
  obtain ⟨d0, _, rfl, h0, h⟩ := h.cons
  obtain ⟨d1, _, rfl, h1, h⟩ := h.cons
  obtain ⟨d2, _, rfl, h2, h⟩ := h.cons
  obtain ⟨d3, _, rfl, h3, h⟩ := h.cons
  obtain rfl := h.nil
  obtain ⟨a, n, k, xs, rfl, s, b, _⟩ := h0.ints
  obtain ⟨a1, rfl, _⟩ := h1.i
  obtain ⟨a', n', k', xs', rfl, s', b', _⟩ := h2.ints
  obtain ⟨a3, rfl, _⟩ := h3.i
  exact ok s s' (by omega) a1 a3
end F5
end Go.X
