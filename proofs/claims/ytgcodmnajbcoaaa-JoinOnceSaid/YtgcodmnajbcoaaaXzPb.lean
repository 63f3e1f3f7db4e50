/- Requests of bytes. -/
import Derived.Test.YtgcodmnajbcoaaaXzPa
set_option linter.unusedVariables false
set_option linter.unusedSimpArgs false
set_option maxRecDepth 20000
namespace Go.X
open Go Go.RowKit Go.Proofs
def finE (bs : List Int) (j : Nat) : Int := if bs.length < j then 2 else if j < bs.length then 3 else 0
def finJ (bs : List Int) (j : Nat) (e : Int) : Int := if e = 0 then finE bs j else e
theorem chkE_ne {bs : List Int} {j : Nat} {e : Int} {m : Prop} [Decidable m] (h : e ≠ 0) : chkE bs j e m = e := if_pos h
theorem chkE_0 {bs : List Int} {j : Nat} {m : Prop} [Decidable m] : chkE bs j 0 m = if bs.length < j then 2 else if m then 0 else 3 := if_neg (fun c => c rfl)
theorem finJ_ne {bs : List Int} {j : Nat} {e : Int} (h : e ≠ 0) : finJ bs j e = e := if_neg h
/-- A request of bytes. -/
def decR (bs : List Int) : RQ × Int :=
  if bs.length < 1 then (rq0, 2) else if ¬bs.getD 0 0 = 74 then (rq0, 3) else if bs.length < 2 then (rq0, 2) else if ¬inP (bs.getD 1 0) 0 15 then (rq0, 3)
  else if bs.length < 3 then (rq0, 2) else if ¬(inP (bs.getD 2 0) 0 15 ∧ bs.getD 2 0 ≠ bs.getD 1 0) then (rq0, 3) else if bs.length < 15 then (rq0, 2) else if 15 < bs.length then (rq0, 3)
  else (⟨bs.getD 1 0, bs.getD 2 0, stV bs 3 4, stV bs 7 4, stV bs 11 4⟩, 0)
def e1R (bs : List Int) : Int := chkE bs 2 (chkE bs 1 0 (bs.getD 0 0 = 74)) (inP (bs.getD 1 0) 0 15)
def n1R (bs : List Int) : Int := if e1R bs = 0 then bs.getD 1 0 else 0
def e2R (bs : List Int) : Int := chkE bs 3 (e1R bs) (inP (bs.getD 2 0) 0 15 ∧ bs.getD 2 0 ≠ n1R bs)
def n2R (bs : List Int) : Int := if e2R bs = 0 then bs.getD 2 0 else 0
theorem decR_eq (bs : List Int) : finJ bs 15 (e2R bs) = (decR bs).2 ∧ ((decR bs).2 = 0 → (⟨n1R bs, n2R bs, stV bs 3 4, stV bs 7 4, stV bs 11 4⟩ : RQ) = (decR bs).1) ∧ ((decR bs).2 ≠ 0 → (decR bs).1 = rq0) := by
  unfold decR
  by_cases a1 : bs.length < 1
  · have h0 : chkE bs 1 0 (bs.getD 0 0 = 74) = 2 := by rw [chkE_0, if_pos a1]
    have h1 : e1R bs = 2 := by unfold e1R; rw [h0, chkE_ne (by decide)]
    have h2 : e2R bs = 2 := by unfold e2R; rw [h1, chkE_ne (by decide)]
    rw [h2, finJ_ne (by decide), if_pos a1]
    exact ⟨rfl, fun h => absurd h (show ¬(2 : Int) = 0 by decide), fun _ => rfl⟩
  rw [if_neg a1]
  by_cases a2 : ¬bs.getD 0 0 = 74
  · have h0 : chkE bs 1 0 (bs.getD 0 0 = 74) = 3 := by rw [chkE_0, if_neg a1, if_neg a2]
    have h1 : e1R bs = 3 := by unfold e1R; rw [h0, chkE_ne (by decide)]
    have h2 : e2R bs = 3 := by unfold e2R; rw [h1, chkE_ne (by decide)]
    rw [h2, finJ_ne (by decide), if_pos a2]
    exact ⟨rfl, fun h => absurd h (show ¬(3 : Int) = 0 by decide), fun _ => rfl⟩
  have h0 : chkE bs 1 0 (bs.getD 0 0 = 74) = 0 := by rw [chkE_0, if_neg a1, if_pos (Classical.not_not.1 a2)]
  rw [if_neg a2]
  by_cases a3 : bs.length < 2
  · have h1 : e1R bs = 2 := by unfold e1R; rw [h0, chkE_0, if_pos a3]
    have h2 : e2R bs = 2 := by unfold e2R; rw [h1, chkE_ne (by decide)]
    rw [h2, finJ_ne (by decide), if_pos a3]
    exact ⟨rfl, fun h => absurd h (show ¬(2 : Int) = 0 by decide), fun _ => rfl⟩
  rw [if_neg a3]
  by_cases a4 : ¬inP (bs.getD 1 0) 0 15
  · have h1 : e1R bs = 3 := by unfold e1R; rw [h0, chkE_0, if_neg a3, if_neg a4]
    have h2 : e2R bs = 3 := by unfold e2R; rw [h1, chkE_ne (by decide)]
    rw [h2, finJ_ne (by decide), if_pos a4]
    exact ⟨rfl, fun h => absurd h (show ¬(3 : Int) = 0 by decide), fun _ => rfl⟩
  have h1 : e1R bs = 0 := by unfold e1R; rw [h0, chkE_0, if_neg a3, if_pos (Classical.not_not.1 a4)]
  have g1 : n1R bs = bs.getD 1 0 := by unfold n1R; rw [if_pos h1]
  rw [if_neg a4]
  by_cases a5 : bs.length < 3
  · have h2 : e2R bs = 2 := by unfold e2R; rw [h1, chkE_0, if_pos a5]
    rw [h2, finJ_ne (by decide), if_pos a5]
    exact ⟨rfl, fun h => absurd h (show ¬(2 : Int) = 0 by decide), fun _ => rfl⟩
  rw [if_neg a5]
  by_cases a6 : ¬(inP (bs.getD 2 0) 0 15 ∧ bs.getD 2 0 ≠ bs.getD 1 0)
  · have h2 : e2R bs = 3 := by unfold e2R; rw [h1, chkE_0, if_neg a5, g1, if_neg a6]
    rw [h2, finJ_ne (by decide), if_pos a6]
    exact ⟨rfl, fun h => absurd h (show ¬(3 : Int) = 0 by decide), fun _ => rfl⟩
  have h2 : e2R bs = 0 := by unfold e2R; rw [h1, chkE_0, if_neg a5, g1, if_pos (Classical.not_not.1 a6)]
  have g2 : n2R bs = bs.getD 2 0 := by unfold n2R; rw [if_pos h2]
  rw [if_neg a6, h2, finJ, if_pos rfl, finE]
  by_cases a7 : bs.length < 15
  · rw [if_pos a7, if_pos a7]
    exact ⟨rfl, fun h => absurd h (show ¬(2 : Int) = 0 by decide), fun _ => rfl⟩
  rw [if_neg a7, if_neg a7]
  by_cases a8 : 15 < bs.length
  · rw [if_pos a8, if_pos a8]
    exact ⟨rfl, fun h => absurd h (show ¬(3 : Int) = 0 by decide), fun _ => rfl⟩
  rw [if_neg a8, if_neg a8, g1, g2]
  exact ⟨rfl, fun _ => rfl, fun h => absurd rfl h⟩
theorem goes42 : fnGoes Try.prog 42 = true := by kernel_rfl
theorem goes52 : fnGoes Try.prog 52 = true := by kernel_rfl
theorem goes65 : fnGoes Try.prog 65 = true := by kernel_rfl
theorem goes67 : fnGoes Try.prog 67 = true := by kernel_rfl
theorem goes68 : fnGoes Try.prog 68 = true := by kernel_rfl
theorem beq_dec {x y : Int} : (x == y) = decide (x = y) := by
  by_cases h : x = y
  · rw [decide_eq_true h, h]; simp
  · rw [decide_eq_false h]; exact beq_eq_false_iff_ne.2 h
namespace F65
theorem ok {H : Heap} {b : Nat} {x y : Int} {vs : List Value} {own : Bool} (g : H.get b = .row vs own) (h0 : vs[0]? = some (.int .i64 y)) : Cc 65 [.int .i64 x, .pointer (some ⟨b, 0, none⟩)] H = some (.bool (decide (inP x 0 15 ∧ x ≠ y)), H) := by
  refine call ⟨_, _, F42.ok _ _, ?_⟩
  by_cases c1 : inP x 0 15
  · rw [if_pos (by simpa using c1)]
    refine ⟨b, 0, rfl, y, by rw [rldc' g]; exact h0, ?_⟩
    rw [beq_dec]
    by_cases h : x = y
    · rw [decide_eq_true h, decide_eq_false (fun c => c.2 h)]; rfl
    · rw [decide_eq_false h, decide_eq_true (show inP x 0 15 ∧ x ≠ y from ⟨c1, h⟩)]; rfl
  · rw [if_neg (by simpa using c1), decide_eq_false fun c => c1 c.1]
end F65
namespace F53
theorem ok {H : Heap} {r p : Nat} {bs : List Int} (hb : IsB bs) (h : JR H r p bs 1 (chkE bs 1 0 (bs.getD 0 0 = 74))) :
    ∃ H', Cc 53 [.pointer (some ⟨r, 0, none⟩)] H = some (.iface 65 (⟨n1R bs, n2R bs, stV bs 3 4, stV bs 7 4, stV bs 11 4⟩ : RQ).agg, H') ∧ JR H' r p bs 15 (e2R bs) ∧ Chg (RP r p) H H' := by
  obtain ⟨H1, c1, h1, g1⟩ := F51.ok hb h (g := 42) (x := #[]) (y := #[]) (inP (bs.getD 1 0) 0 15) goes42 (fun X _ => F42.ok _ _)
  have h1 : JR H1 r p bs 2 (e1R bs) := h1
  have hrl := h.rlt
  have hpl := h.lt
  have n1 := g1.next
  obtain ⟨H3, s3, g3, k3, m3⟩ := fill H1 rq0.cells (⟨n1R bs, 0, 0, 0, 0⟩ : RQ).cells rfl
  have h3 := h1.new k3
  obtain ⟨H4, c4, h4, g4⟩ := F51.ok hb h3 (g := 65) (x := #[]) (y := #[.pointer (some ⟨H1.next, 0, none⟩)]) (inP (bs.getD 2 0) 0 15 ∧ bs.getD 2 0 ≠ n1R bs) goes65 (fun X cX => F65.ok (by rw [cX.get _ (by omega) (fun hh => by rcases hh with hh | hh <;> omega)]; exact g3) rfl)
  have h4 : JR H4 r p bs 3 (e2R bs) := h4
  have n4 := g4.next
  have r4 : H4.get H1.next = .row (⟨n1R bs, 0, 0, 0, 0⟩ : RQ).cells true := by rw [g4.get _ (by omega) (fun hh => by rcases hh with hh | hh <;> omega)]; exact g3
  let X5 := H4.set H1.next (.row (⟨n1R bs, n2R bs, 0, 0, 0⟩ : RQ).cells true)
  have s5 : stc H4 H1.next 1 [.int .i64 (n2R bs)] = some X5 := rstc' r4 (i := 1) (by simp) _
  have r5 : X5.get H1.next = .row (⟨n1R bs, n2R bs, 0, 0, 0⟩ : RQ).cells true := by simp [X5]
  have h5 : JR X5 r p bs 3 (e2R bs) := h4.set (by omega)
  have m5 : X5.next = H4.next := rfl
  obtain ⟨H6, c6, h6, g6⟩ := F66.ok h5
  obtain ⟨H7, c7, h7, g7⟩ := F66.ok h6
  obtain ⟨H8, c8, h8, g8⟩ := F66.ok h7
  have g58 : Chg (fun b => b = p) X5 H8 := (g6.trans g7 fun _ _ h => h).trans g8 fun _ _ h => h
  have n8 := g58.next
  have r8 : H8.get H1.next = .row (⟨n1R bs, n2R bs, 0, 0, 0⟩ : RQ).cells true := by rw [g58.get _ (by omega) (fun hh => by have hh : H1.next = p := hh; omega)]; exact r5
  let X9 := H8.set H1.next (.row (⟨n1R bs, n2R bs, stV bs 3 4, 0, 0⟩ : RQ).cells true)
  let X10 := X9.set H1.next (.row (⟨n1R bs, n2R bs, stV bs 3 4, stV bs 7 4, 0⟩ : RQ).cells true)
  let X11 := X10.set H1.next (.row (⟨n1R bs, n2R bs, stV bs 3 4, stV bs 7 4, stV bs 11 4⟩ : RQ).cells true)
  have s9 : stc H8 H1.next 2 [.int .u32 (stV bs 3 4)] = some X9 := rstc' r8 (i := 2) (by simp) _
  have r9 : X9.get H1.next = .row (⟨n1R bs, n2R bs, stV bs 3 4, 0, 0⟩ : RQ).cells true := by simp [X9]
  have s10 : stc X9 H1.next 3 [.int .u32 (stV bs 7 4)] = some X10 := rstc' r9 (i := 3) (by simp) _
  have r10 : X10.get H1.next = .row (⟨n1R bs, n2R bs, stV bs 3 4, stV bs 7 4, 0⟩ : RQ).cells true := by simp [X10]
  have s11 : stc X10 H1.next 4 [.int .u32 (stV bs 11 4)] = some X11 := rstc' r10 (i := 4) (by simp) _
  have r11 : X11.get H1.next = .row (⟨n1R bs, n2R bs, stV bs 3 4, stV bs 7 4, stV bs 11 4⟩ : RQ).cells true := by simp [X11]
  have h11 : JR X11 r p bs 15 (e2R bs) := ((h8.set (by omega)).set (by omega)).set (by omega)
  have kk : Chg (RP r p) H X11 := by
    have a := g1.trans (k3.chg0 (S := RP r p)) fun _ _ h => h
    have b := a.trans g4 fun _ _ h => h
    have c := b.trans (T := fun b => b = H1.next) (chgSet' (.row (⟨n1R bs, n2R bs, 0, 0, 0⟩ : RQ).cells true)) fun b hb h => by have h : b = H1.next := h; omega
    have d := c.trans g58 fun _ _ h => .inl h
    have e := d.trans (T := fun b => b = H1.next) (chgSet' (.row (⟨n1R bs, n2R bs, stV bs 3 4, 0, 0⟩ : RQ).cells true)) fun b hb h => by have h : b = H1.next := h; omega
    have f := e.trans (T := fun b => b = H1.next) (chgSet' (.row (⟨n1R bs, n2R bs, stV bs 3 4, stV bs 7 4, 0⟩ : RQ).cells true)) fun b hb h => by have h : b = H1.next := h; omega
    exact f.trans (T := fun b => b = H1.next) (chgSet' (.row (⟨n1R bs, n2R bs, stV bs 3 4, stV bs 7 4, stV bs 11 4⟩ : RQ).cells true)) fun b hb h => by have h : b = H1.next := h; omega
  exact ⟨X11, call ⟨_, _, c1, _, rfl, H3, s3, _, _, c4, X5, s5, _, _, c6, _, _, c7, _, _, c8, X9, s9, X10, s10, X11, s11, _, _, _, _, _, rldAll r11, rfl⟩, h11, kk⟩
end F53
namespace F52
theorem ok {H : Heap} {b : Nat} {x y : Int} (g : H.get b = .row [.int .u8 y] true) (hy : 0 ≤ y ∧ y < 256) : Cc 52 [.int .i64 x, .pointer (some ⟨b, 0, none⟩)] H = some (.bool (decide (x = y)), H) := by
  refine call ⟨b, 0, rfl, y, rldc' g 0, ?_⟩
  rw [i64 (by omega) (by omega), beq_dec]
end F52
namespace F35
/-- Up to the first byte's check. -/
theorem start {H : Heap} {a : Option Addr} {n k : Nat} {bs : List Int} (hs : By H a n k bs) (hb : IsB bs) (hn : n ≤ 1099511627776) {y : Int} (hy : 0 ≤ y ∧ y < 256) :
    ∃ (p : Nat) (H2 H4 : Heap), (∀ rv, (if y = 74 then
    (∃ (t18 : Value) (H_5 : Heap), Cc 53 [.pointer (some ⟨H2.next, 0, none⟩)] H4 = some (t18, H_5) ∧ (L0 (H2.next) (0) (t18) H_5 rv)) else
    (∃ (t20 : Value) (H_6 : Heap), Cc 54 [.pointer (some ⟨H2.next, 0, none⟩)] H4 = some (t20, H_6) ∧ (L0 (H2.next) (0) (t20) H_6 rv))) → Cc 35 [.slice a n k, .int .u8 y] H = some rv) ∧
      JR H4 H2.next p bs 1 (chkE bs 1 0 (bs.getD 0 0 = y)) ∧ H.next < p ∧ Keep H.next H H4 := by
  obtain ⟨H1, e1, n1, g1, k1⟩ := one H [.int .u8 y]
  obtain ⟨p, a2, H2, c2, r2, hp, ha2, k2⟩ := F50.ok (hs.keep k1) hb hn
  have hpl := r2.lt
  obtain ⟨H3, e3, n3, g3, k3⟩ := one H2 [.pointer (some ⟨p, 0, none⟩), .int .i64 0]
  have r0 : RB H2 p a2 bs 0 := by
    have e1 : stR bs 0 = unpack bs := by unfold stR; rw [if_pos (Nat.zero_le _), List.drop_zero, unpack_tbits hb]
    have e2 : stE bs 0 = 0 := by unfold stE; rw [if_pos (Nat.zero_le _)]
    show RM H2 p a2 (stR bs 0) (stE bs 0)
    rw [e1, e2]; exact r2
  have j3 : JR H3 H2.next p bs 0 0 := ⟨hpl, by omega, g3, a2, RM.new r0 k3, fun b hb => RM.alt r0 b hb⟩
  have k2n := k2.next
  have g1' : ∀ X, Chg (RP H2.next p) H3 X → X.get H.next = .row [.int .u8 y] true := fun X cX => by
    rw [cX.get _ (by omega) (fun hh => by rcases hh with hh | hh <;> omega), k3.get _ (by omega), k2.get _ (by omega)]; exact g1
  obtain ⟨H4, c4, j4, g4⟩ := F51.ok hb j3 (g := 52) (x := #[]) (y := #[.pointer (some ⟨H.next, 0, none⟩)]) (bs.getD 0 0 = y) goes52 (fun X cX => F52.ok (g1' X cX) hy)
  have n4 := g4.next
  refine ⟨p, H2, H4, fun rv hr => ?_, j4, by omega, ((k1.trans (k2.weak (by omega))).trans (k3.weak (by omega))).trans (g4.keep (by omega) fun b hb h => by rcases h with h | h <;> omega)⟩
  exact call ⟨_, e1, _, _, c2, _, e3, _, _, c4, _, rldc' (g1' H4 g4) 0, hr⟩
theorem fin {H : Heap} {r p : Nat} {bs : List Int} {j : Nat} {e : Int} {v : Value} (h : JR H r p bs j e) : ∃ H', L0 r 0 v H (.tuple #[v, .int .i64 (finJ bs j e)], H') ∧ Chg (fun b => b = r) H H' := by
  by_cases he : e = 0
  · let X := H.set r (.row [.pointer (some ⟨p, 0, none⟩), .int .i64 (finE bs j)] true)
    have s : stc H r 1 [.int .i64 (finE bs j)] = some X := rstc' h.row (i := 1) (by simp) _
    have g : X.get r = .row [.pointer (some ⟨p, 0, none⟩), .int .i64 (finE bs j)] true := by simp [X]
    refine ⟨X, L0_step ⟨_, rldc' h.row 1, ?_⟩, chgSet' _⟩
    rw [if_pos he]
    refine ⟨_, rldc' h.row 0, _, _, h.fin, X, s, L1_step ⟨_, rldc' g 1, ?_⟩⟩
    unfold finJ
    rw [if_pos he]
  · refine ⟨H, L0_step ⟨_, rldc' h.row 1, ?_⟩, Chg.refl _⟩
    rw [if_neg he, finJ_ne he]
    exact L1_step ⟨_, rldc' h.row 1, rfl⟩
theorem okR {H : Heap} {a : Option Addr} {n k : Nat} {bs : List Int} (hs : By H a n k bs) (hb : IsB bs) (hn : n ≤ 1099511627776) :
    ∃ (v : RQ) (H' : Heap), Cc 35 [.slice a n k, .int .u8 74] H = some (.tuple #[.iface 65 v.agg, .int .i64 (decR bs).2], H') ∧ ((decR bs).2 = 0 → v = (decR bs).1) ∧ Keep H.next H H' := by
  obtain ⟨p, H2, H4, go, j4, hp, k4⟩ := start hs hb hn (y := 74) (by decide)
  obtain ⟨H5, c5, j5, g5⟩ := F53.ok hb j4
  obtain ⟨H6, z, g6⟩ := fin (v := .iface 65 (⟨n1R bs, n2R bs, stV bs 3 4, stV bs 7 4, stV bs 11 4⟩ : RQ).agg) j5
  have hd := decR_eq bs
  rw [hd.1] at z
  have hlt := j4.lt
  have hr := j4.rlt
  have n5 := g5.next
  refine ⟨_, H6, go _ ?_, fun h => hd.2.1 h, (k4.trans (g5.keep (by omega) fun b hb h => by rcases h with h | h <;> omega)).trans (g6.keep (by omega) fun b hb h => by have h : b = H2.next := h; omega)⟩
  rw [if_pos rfl]
  exact ⟨_, _, c5, z⟩
end F35
namespace F14
theorem ok {H : Heap} {a : Option Addr} {n k : Nat} {bs : List Int} (hs : By H a n k bs) (hb : IsB bs) (hn : n ≤ 1099511627776) :
    ∃ H', Cc 14 [.slice a n k] H = some (.tuple #[(decR bs).1.agg, .int .i64 (decR bs).2], H') ∧ Keep H.next H H' := by
  obtain ⟨H1, e1, n1, g1, k1⟩ := one H rq0.cells
  obtain ⟨v, H2, c2, hv, k2⟩ := F35.okR (hs.keep k1) hb hn
  have n2 := k2.next
  obtain ⟨H4, s4, g4, k4, n4⟩ := fill H2 rq0.cells v.cells rfl
  have g1' : H4.get H.next = .row rq0.cells true := by rw [(k2.th k4).get _ (by omega)]; exact g1
  have kk := k1.trans ((k2.th k4).weak (by omega))
  by_cases h0 : (decR bs).2 = 0
  · have hv := hv h0
    subst hv
    let X := H4.set H.next (.row (decR bs).1.cells true)
    have s5 : stc H4 H.next 0 (decR bs).1.cells = some X := rstAll g1' rfl
    have g5 : X.get H.next = .row (decR bs).1.cells true := by simp [X]
    refine ⟨X, call ⟨_, e1, _, _, _, c2, .inr ⟨_, _, rfl, ?_⟩⟩, kk.trans (Keep.set _ (Nat.le_refl _))⟩
    rw [if_pos rfl]
    refine ⟨_, _, _, _, _, rfl, _, rfl, H4, s4, L0_step ?_⟩
    rw [if_pos (by rw [h0]; rfl)]
    refine ⟨_, _, _, _, _, rldAll g4, X, s5, _, _, _, _, _, rldAll g5, ?_⟩
    rw [h0]
  · let X := H4.set H.next (.row rq0.cells true)
    have s5 : stc H4 H.next 0 rq0.cells = some X := rstAll g1' rfl
    have g5 : X.get H.next = .row rq0.cells true := by simp [X]
    refine ⟨X, call ⟨_, e1, _, _, _, c2, .inr ⟨_, _, rfl, ?_⟩⟩, kk.trans (Keep.set _ (Nat.le_refl _))⟩
    rw [if_pos rfl]
    refine ⟨_, _, _, _, _, rfl, _, rfl, H4, s4, L0_step ?_⟩
    rw [if_neg (by simpa using h0)]
    refine ⟨X, s5, _, _, _, _, _, rldAll g5, ?_⟩
    rw [(decR_eq bs).2.2 h0]
end F14
def cellAt (bs : List Int) (j : Nat) : C5 := ⟨bs.getD j 0, bs.getD (j + 1) 0, bs.getD (j + 2) 0, bs.getD (j + 3) 0, bs.getD (j + 4) 0⟩
def decCs (bs : List Int) : Nat → Nat → List C5 → Int × List C5
  | 0, _, acc => (0, acc)
  | d + 1, j, acc => if bs.length < j + 5 then (2, acc) else if mayC (cellAt bs j) then decCs bs d (j + 5) (acc ++ [cellAt bs j]) else (3, acc)
def endG (bs : List Int) (n d a : Int) (s : Int × List C5) (j : Nat) : GV × Int := if s.1 ≠ 0 then (gv0, s.1) else if finE bs (j + 4) ≠ 0 then (gv0, finE bs (j + 4)) else (⟨n, d, a, s.2, stV bs j 4⟩, 0)
/-- A grant of bytes. -/
def decG (bs : List Int) : GV × Int :=
  if bs.length < 1 then (gv0, 2) else if ¬bs.getD 0 0 = 71 then (gv0, 3) else if bs.length < 2 then (gv0, 2) else if ¬inP (bs.getD 1 0) 0 15 then (gv0, 3)
  else if bs.length < 8 then (gv0, 2) else if ¬bs.getD 7 0 ≤ 8 then (gv0, 3)
  else endG bs (bs.getD 1 0) (bs.getD 2 0) (stV bs 3 4) (decCs bs (bs.getD 7 0).toNat 8 []) (8 + 5 * (bs.getD 7 0).toNat)
theorem decCs_len (bs : List Int) : ∀ (d j : Nat) (acc : List C5), (decCs bs d j acc).2.length ≤ acc.length + d
  | 0, _, acc => by simp [decCs]
  | d + 1, j, acc => by
    unfold decCs
    split
    · simp
    · split
      · have := decCs_len bs d (j + 5) (acc ++ [cellAt bs j]); simp at this ⊢; omega
      · simp
theorem endG_err {bs : List Int} {n d a : Int} {s : Int × List C5} {j : Nat} (h : (endG bs n d a s j).2 ≠ 0) : (endG bs n d a s j).1 = gv0 := by
  unfold endG at h ⊢
  split
  · rfl
  · rename_i h1
    rw [if_neg h1] at h
    split
    · rfl
    · rename_i h2
      rw [if_neg h2] at h
      exact absurd rfl h
theorem decG_err {bs : List Int} (h : (decG bs).2 ≠ 0) : (decG bs).1 = gv0 := by
  unfold decG at h ⊢
  split
  · rfl
  rename_i h1; rw [if_neg h1] at h
  split
  · rfl
  rename_i h2; rw [if_neg h2] at h
  split
  · rfl
  rename_i h3; rw [if_neg h3] at h
  split
  · rfl
  rename_i h4; rw [if_neg h4] at h
  split
  · rfl
  rename_i h5; rw [if_neg h5] at h
  split
  · rfl
  rename_i h6; rw [if_neg h6] at h
  exact endG_err h
/-- A grant's row. -/
abbrev rowG (n d a : Int) (sa : Option Addr) (sn sk : Nat) (t : Int) : List Value := [.int .i64 n, .int .i64 d, .int .u32 a, .slice sa sn sk, .int .u32 t]
abbrev RU (r p b : Nat) : Prop := b = p ∨ r ≤ b
namespace F54
theorem l0 {r p X : Nat} {bs : List Int} {n1 d1 a1 : Int} {N : Nat} (hb : IsB bs) (hN : N ≤ 8) (hX : r < X) : ∀ (d i : Nat) (acc : List C5) (sa : Option Addr) (sk : Nat) (H : Heap), i + d = N → acc.length = i → JR H r p bs (8 + 5 * i) 0 → X < H.next → H.get X = .row (rowG n1 d1 a1 sa i sk 0) true → Own (r + 1) H 5 sa i sk (acc.flatMap C5.cells) → ¬In1 sa X →
    ∃ (g : Gr) (j' : Nat) (e' : Int) (H' : Heap), L0 (some ⟨r, 0, none⟩) X 0 (N : Int) (i : Int) H (.iface 71 g.agg, H') ∧ GrOk H' g ∧ (∀ b, In1 g.sa b → r < b) ∧ JR H' r p bs j' e' ∧ Chg (RU r p) H H' ∧
      finJ bs j' e' = (endG bs n1 d1 a1 (decCs bs d (8 + 5 * i) acc) (8 + 5 * N)).2 ∧ ((endG bs n1 d1 a1 (decCs bs d (8 + 5 * i) acc) (8 + 5 * N)).2 = 0 → g.v = (endG bs n1 d1 a1 (decCs bs d (8 + 5 * i) acc) (8 + 5 * N)).1) := by
  intro d
  induction d with
  | zero =>
    intro i acc sa sk H hi hl h hXn gX o hap
    have e : i = N := by omega
    subst e
    obtain ⟨H1, c1, h1, g1⟩ := F66.ok h
    have hpl := h.lt
    have n1' := g1.next
    have gX1 : H1.get X = .row (rowG n1 d1 a1 sa i sk 0) true := by rw [g1.get _ hXn (fun hh => by have hh : X = p := hh; omega)]; exact gX
    let g : Gr := ⟨⟨n1, d1, a1, acc, stV bs (8 + 5 * i) 4⟩, sa, sk⟩
    let Y := H1.set X (.row g.cells true)
    have s2 : stc H1 X 4 [.int .u32 (stV bs (8 + 5 * i) 4)] = some Y := by
      have := rstc' gX1 (i := 4) (by simp) (.int .u32 (stV bs (8 + 5 * i) 4))
      rw [this]
      show some (H1.set X (.row (rowG n1 d1 a1 sa i sk (stV bs (8 + 5 * i) 4)) true)) = some (H1.set X (.row (rowG n1 d1 a1 sa acc.length sk (stV bs (8 + 5 * i) 4)) true))
      rw [hl]
    have gY : Y.get X = .row g.cells true := by simp [Y]
    have o1 : Own (r + 1) H1 5 sa i sk (acc.flatMap C5.cells) := o.chg g1 fun b hb hh => by have := (o.lt hb).1; have hh : b = p := hh; omega
    have o2 : Own (r + 1) Y 5 sa i sk (acc.flatMap C5.cells) := o1.chg (chgSet' _) fun b hb hh => hap ((show b = X from hh) ▸ hb)
    refine ⟨g, _, _, Y, L0_step ?_, ⟨by show Cells Y sa acc.length sk acc; rw [hl]; exact o2.sl, by show acc.length ≤ _; omega⟩, fun b hb => by have := (o2.lt hb).1; omega, h1.set hX, (g1.weak fun _ _ h => .inl h).trans (T := fun b => b = X) (chgSet' _) fun b hb hh => .inr (by have hh : b = X := hh; omega), ?_, ?_⟩
    · rw [if_neg (by omega)]
      exact ⟨_, _, c1, Y, s2, _, _, _, _, _, _, _, rldAll gY, rfl⟩
    · unfold endG decCs
      rw [if_neg (fun c => c rfl), finJ, if_pos rfl]
      split
      · rfl
      · rename_i hh; exact Classical.not_not.1 hh
    · unfold endG decCs
      rw [if_neg (fun c => c rfl)]
      intro hh
      split
      · rename_i h2; rw [if_pos h2] at hh; exact absurd hh h2
      · rfl
  | succ d ih =>
    intro i acc sa sk H hi hl h hXn gX o hap
    obtain ⟨H1, c1, h1, g1⟩ := F63.ok hb h
    obtain ⟨H2, c2, h2, g2⟩ := F63.ok hb h1
    obtain ⟨H3, c3, h3, g3⟩ := F63.ok hb h2
    obtain ⟨H4, c4, h4, g4⟩ := F63.ok hb h3
    obtain ⟨H5, c5, h5, g5⟩ := F63.ok hb h4
    have t5 : Chg (fun b => b = p) H H5 := (((g1.trans g2 fun _ _ h => h).trans g3 fun _ _ h => h).trans g4 fun _ _ h => h).trans g5 fun _ _ h => h
    have hpl := h.lt
    have n5 := t5.next
    have h5 : JR H5 r p bs (8 + 5 * i + 5) 0 := h5
    let c : C5 := cellAt bs (8 + 5 * i)
    obtain ⟨H7, s7, r7, k7, m7⟩ := fill H5 c50.cells c.cells rfl
    obtain ⟨H8, c8, k8⟩ := F59.ok c H7
    have n8 := k8.next
    have r8 : H8.get H5.next = .row c.cells true := by rw [k8.get _ (by omega)]; exact r7
    have h8 := (h5.new k7).new k8
    obtain ⟨H9, c9, h9, g9⟩ := F64.ok h8 (mayC c)
    have n9 := g9.next
    have hr9 := h9.rlt
    have r9 : H9.get H5.next = .row c.cells true := by rw [g9.get _ (by omega) (fun hh => by have hh : H5.next = r := hh; have := h5.rlt; omega)]; exact r8
    have k58 := k7.th k8
    have gX9 : H9.get X = .row (rowG n1 d1 a1 sa i sk 0) true := by
      rw [g9.get _ (by omega) (fun hh => by have hh : X = r := hh; omega), k58.get _ (by omega), t5.get _ hXn (fun hh => by have hh : X = p := hh; omega)]; exact gX
    have tt9 : Chg (RU r p) H H9 := ((t5.weak fun _ _ h => .inl h).trans (k58.chg0 (S := RU r p)) fun _ _ h => h).trans g9 fun b _ hh => .inr (by have hh : b = r := hh; omega)
    have o9 : Own (r + 1) H9 5 sa i sk (acc.flatMap C5.cells) := ((o.chg t5 fun b hb hh => by have := (o.lt hb).1; have hh : b = p := hh; omega).keep k58).chg g9 fun b hb hh => by have := (o.lt hb).1; have hh : b = r := hh; omega
    have start : ∀ rv, (if (chkE bs (8 + 5 * i + 5) 0 (mayC c) == 0) = true then
        (∃ (t37a : Option Addr) (t37n : Nat) (t37k : Nat), ldc H9 X (0 + 3) = some (.slice t37a t37n t37k) ∧
        (∃ (t38c0 : Int) (t38c1 : Int) (t38c2 : Int) (t38c3 : Int) (t38c4 : Int), ldAll H9 H5.next 0 [.int .i64 t38c0, .int .i64 t38c1, .int .i64 t38c2, .int .i64 t38c3, .int .i64 t38c4] ∧
        (∃ (H_10 : Heap), H_10 = H9.push (.row [.int .i64 t38c0, .int .i64 t38c1, .int .i64 t38c2, .int .i64 t38c3, .int .i64 t38c4] true) ∧
        (∃ (t40a : Option Addr) (t40n : Nat) (t40k : Nat) (H_11 : Heap), papp H_10 5 40 t37a t37n t37k (some ⟨H9.next, 0, none⟩) 1 (UNK 5) = some ((t40a, t40n, t40k), H_11) ∧
        (∃ (H_12 : Heap), stc H_11 X (0 + 3) [.slice t40a t40n t40k] = some H_12 ∧
        (L0 (some ⟨r, 0, none⟩) X 0 (N : Int) (IntKind.wrap .i64 ((i : Int) + 1)) H_12 rv))))))
        else
        (rv = (.iface 71 (.agg #[.int .i64 0, .int .i64 0, .int .u32 0, .slice none 0 0, .int .u32 0]), H9))) → L0 (some ⟨r, 0, none⟩) X 0 (N : Int) (i : Int) H rv := by
      intro rv hv
      refine L0_step ?_
      rw [if_pos (by omega)]
      exact ⟨_, _, c1, _, _, c2, _, _, c3, _, _, c4, _, _, c5, _, rfl, H7, s7, _, _, _, _, _, rldAll r7, _, _, c8, _, _, c9, hv⟩
    rw [chkE_0] at *
    by_cases hlen : bs.length < 8 + 5 * i + 5
    · rw [if_pos hlen] at *
      refine ⟨gr0, _, _, H9, start _ ?_, gr0_ok _, fun b hb => absurd hb In1.none, h9, tt9, ?_, ?_⟩
      · rw [if_neg (by decide)]; rfl
      · unfold decCs; rw [if_pos hlen, finJ_ne (by decide)]; rfl
      · unfold decCs; rw [if_pos hlen]; exact fun hh => absurd hh (show ¬(2 : Int) = 0 by decide)
    rw [if_neg hlen] at *
    by_cases hm : mayC c
    · rw [if_pos hm] at *
      obtain ⟨H10, e10, n10, r10, k10⟩ := one H9 c.cells
      have s10 : Sl H10 5 (some ⟨H9.next, 0, none⟩) 1 (UNK 5) c.cells := by
        rw [e10]; exact (Own.new (H := H9) (z := 5) (n := 1) (vs := c.cells) rfl).sl
      obtain ⟨a11, k11, H11, c11, o11, g11, f11⟩ := (o9.keep k10).append' (by_ := 40) s10 (by decide) (by omega) (by omega) (by omega)
      have ef : acc.flatMap C5.cells ++ c.cells = (acc ++ [c]).flatMap C5.cells := by simp
      rw [ef] at o11
      have n11 := g11.next
      have gX11 : H11.get X = .row (rowG n1 d1 a1 sa i sk 0) true := by rw [g11.get _ (by omega) hap, k10.get _ (by omega)]; exact gX9
      let Y := H11.set X (.row (rowG n1 d1 a1 a11 (i + 1) k11 0) true)
      have s12 : stc H11 X 3 [.slice a11 (i + 1) k11] = some Y := rstc' gX11 (i := 3) (by simp) _
      have hap11 : ¬In1 a11 X := fun hh => by
        rcases f11 X hh with hh | hh
        · exact hap hh
        · omega
      have o12 : Own (r + 1) Y 5 a11 (i + 1) k11 ((acc ++ [c]).flatMap C5.cells) := o11.chg (chgSet' _) fun b hb hh => hap11 ((show b = X from hh) ▸ hb)
      have h12 : JR Y r p bs (8 + 5 * (i + 1)) 0 := by
        have : JR H11 r p bs (8 + 5 * i + 5) 0 := (h9.new k10).chg g11 fun b hbr hh => by have := (o9.lt hh).1; omega
        rw [show 8 + 5 * (i + 1) = 8 + 5 * i + 5 by omega]
        exact this.set hX
      obtain ⟨g, j', e', H', z, q1, q2, q3, q4, q5, q6⟩ := ih (i + 1) (acc ++ [c]) a11 k11 Y (by omega) (by simp [hl]) h12 (by show X < H11.next; omega) (by simp [Y]) o12 hap11
      have ed : decCs bs (d + 1) (8 + 5 * i) acc = decCs bs d (8 + 5 * (i + 1)) (acc ++ [c]) := by
        conv => lhs; unfold decCs
        rw [if_neg hlen, if_pos hm, show 8 + 5 * (i + 1) = 8 + 5 * i + 5 by omega]
      rw [ed]
      have tY : Chg (RU r p) H Y := ((tt9.trans (k10.chg0 (S := RU r p)) fun _ _ h => h).trans g11 fun b _ hh => .inr (by have := (o9.lt hh).1; omega)).trans (T := fun b => b = X) (chgSet' _) fun b hb hh => .inr (by have hh : b = X := hh; omega)
      refine ⟨g, j', e', H', start _ ?_, q1, q2, q3, tY.trans q4 fun _ _ h => h, q5, q6⟩
      rw [if_pos (by rfl), i64 (by omega) (by omega)]
      exact ⟨_, _, _, rldc' gX9 3, _, _, _, _, _, rldAll r9, H10, e10, _, _, _, _, c11, Y, s12, by exact_mod_cast z⟩
    · rw [if_neg hm] at *
      refine ⟨gr0, _, _, H9, start _ ?_, gr0_ok _, fun b hb => absurd hb In1.none, h9, tt9, ?_, ?_⟩
      · rw [if_neg (by decide)]; rfl
      · unfold decCs; rw [if_neg hlen, if_neg hm, finJ_ne (by decide)]; rfl
      · unfold decCs; rw [if_neg hlen, if_neg hm]; exact fun hh => absurd hh (show ¬(3 : Int) = 0 by decide)
theorem ok {H : Heap} {r p : Nat} {bs : List Int} (hb : IsB bs) (h : JR H r p bs 1 (chkE bs 1 0 (bs.getD 0 0 = 71))) :
    ∃ (g : Gr) (j' : Nat) (e' : Int) (H' : Heap), Cc 54 [.pointer (some ⟨r, 0, none⟩)] H = some (.iface 71 g.agg, H') ∧ GrOk H' g ∧ (∀ b, In1 g.sa b → r < b) ∧ JR H' r p bs j' e' ∧ Chg (RU r p) H H' ∧ finJ bs j' e' = (decG bs).2 ∧ ((decG bs).2 = 0 → g.v = (decG bs).1) := by
  obtain ⟨H1, c1, h1, g1⟩ := F51.ok hb h (g := 42) (x := #[]) (y := #[]) (inP (bs.getD 1 0) 0 15) goes42 (fun X _ => F42.ok _ _)
  obtain ⟨H2, c2, h2, g2⟩ := F51.ok hb h1 (g := 67) (x := #[]) (y := #[]) True goes67 (fun X _ => by rw [decide_eq_true trivial]; exact F67.call rfl)
  obtain ⟨H3, c3, h3, g3⟩ := F66.ok h2
  have hpl := h.lt
  have hrl := h3.rlt
  have t3 : Chg (RP r p) H H3 := (g1.trans g2 fun _ _ h => h).trans g3 fun _ _ h => .inl h
  have n3 := t3.next
  obtain ⟨q0, hq0⟩ : ∃ x, x = chkE bs (1 + 1) (chkE bs 1 0 (bs.getD 0 0 = 71)) (inP (bs.getD 1 0) 0 15) := ⟨_, rfl⟩
  rw [← hq0] at h1 h2 h3 c1 c2
  obtain ⟨q1, hq1⟩ : ∃ x, x = chkE bs (1 + 1 + 1) q0 True := ⟨_, rfl⟩
  rw [← hq1] at h2 h3 c2
  obtain ⟨v1, hv1⟩ : ∃ x, x = (if q0 = 0 then bs.getD 1 0 else 0) := ⟨_, rfl⟩
  obtain ⟨v2, hv2⟩ : ∃ x, x = (if q1 = 0 then bs.getD (1 + 1) 0 else 0) := ⟨_, rfl⟩
  have c1 : Cc 51 [.pointer (some ⟨r, 0, none⟩), .func (.func 42) #[] #[]] H = some (.int .i64 v1, H1) := by rw [hv1]; exact c1
  have c2 : Cc 51 [.pointer (some ⟨r, 0, none⟩), .func (.func 67) #[] #[]] H1 = some (.int .i64 v2, H2) := by rw [hv2]; exact c2
  obtain ⟨H5, s5, r5, k5, m5⟩ := fill H3 gr0.cells (rowG v1 v2 (stV bs (1 + 1 + 1) 4) none 0 0 0) rfl
  have h5 := h3.new k5
  obtain ⟨H6, c6, h6, g6⟩ := F51.ok hb h5 (g := 68) (x := #[]) (y := #[]) (bs.getD 7 0 ≤ 8) goes68 (fun X _ => F68.call rfl)
  have n6 := g6.next
  obtain ⟨q2, hq2⟩ : ∃ x, x = chkE bs 8 q1 (bs.getD 7 0 ≤ 8) := ⟨_, rfl⟩
  have h6 : JR H6 r p bs 8 q2 := by rw [hq2]; exact h6
  have c6 : Cc 51 [.pointer (some ⟨r, 0, none⟩), .func (.func 68) #[] #[]] H5 = some (.int .i64 (if q2 = 0 then bs.getD 7 0 else 0), H6) := by rw [hq2]; exact c6
  have r6 : H6.get H3.next = .row (rowG v1 v2 (stV bs 3 4) none 0 0 0) true := by rw [g6.get _ (by omega) (fun hh => by rcases hh with hh | hh <;> omega)]; exact r5
  have t6 : Chg (RU r p) H H6 := ((t3.weak fun b _ h => by rcases h with h | h; exact .inl h; exact .inr (by omega)).trans (k5.chg0 (S := RU r p)) fun _ _ h => h).trans g6 fun b _ h => by rcases h with h | h; exact .inl h; exact .inr (by omega)
  have go : ∀ rv, L0 (some ⟨r, 0, none⟩) H3.next 0 (if q2 = 0 then bs.getD 7 0 else 0) 0 H6 rv → Cc 54 [.pointer (some ⟨r, 0, none⟩)] H = some rv := fun rv hv => call ⟨_, _, c1, _, _, c2, _, _, c3, _, rfl, H5, s5, _, _, c6, hv⟩
  have h7 := (stV_one hb 7).2
  by_cases hq : q2 = 0
  · -- all is well so far
    rw [if_pos hq] at go
    rw [hq] at h6
    have hq1' : q1 = 0 := Classical.byContradiction fun c => by rw [hq2, chkE_ne c] at hq; exact c hq
    rw [hq2, hq1', chkE_0] at hq
    have l8 : ¬bs.length < 8 := fun c => by rw [if_pos c] at hq; exact absurd hq (by decide)
    rw [if_neg l8] at hq
    have b7 : bs.getD 7 0 ≤ 8 := Classical.byContradiction fun c => by rw [if_neg c] at hq; exact absurd hq (by decide)
    have hq0' : q0 = 0 := Classical.byContradiction fun c => by rw [hq1, chkE_ne c] at hq1'; exact c hq1'
    have hc0 : chkE bs 1 0 (bs.getD 0 0 = 71) = 0 := Classical.byContradiction fun c => by rw [hq0, chkE_ne c] at hq0'; exact c hq0'
    rw [hq0, hc0, chkE_0, if_neg (by omega)] at hq0'
    have b1 : inP (bs.getD 1 0) 0 15 := Classical.byContradiction fun c => by rw [if_neg c] at hq0'; exact absurd hq0' (by decide)
    rw [chkE_0, if_neg (by omega)] at hc0
    have b0 : bs.getD 0 0 = 71 := Classical.byContradiction fun c => by rw [if_neg c] at hc0; exact absurd hc0 (by decide)
    have ev1 : v1 = bs.getD 1 0 := by rw [hv1, if_pos (by rw [hq0, chkE_0, if_neg (by omega), if_pos b0, chkE_0, if_neg (by omega), if_pos b1])]
    have ev2 : v2 = bs.getD 2 0 := by rw [hv2, if_pos hq1']
    obtain ⟨N, hN⟩ : ∃ N : Nat, bs.getD 7 0 = (N : Int) := ⟨(bs.getD 7 0).toNat, by omega⟩
    obtain ⟨g, j', e', H', z, w1, w2, w3, w4, w5, w6⟩ := l0 (n1 := v1) (d1 := v2) (a1 := stV bs 3 4) (N := N) hb (by omega) (show r < H3.next from hrl) N 0 [] none 0 H6 (by omega) rfl h6 (by omega) r6 ⟨rfl, .inl ⟨rfl, rfl, rfl⟩⟩ In1.none
    have ed : decG bs = endG bs v1 v2 (stV bs 3 4) (decCs bs N (8 + 5 * 0) []) (8 + 5 * N) := by
      unfold decG
      rw [if_neg (by omega), if_neg (fun c => c b0), if_neg (by omega), if_neg (fun c => c b1), if_neg l8, if_neg (fun c => c b7), hN, Int.toNat_natCast, ev1, ev2]
    rw [hN] at go
    rw [ed]
    exact ⟨g, j', e', H', go _ z, w1, w2, w3, t6.trans w4 fun _ _ h => h, w5, w6⟩
  · rw [if_neg hq] at go
    obtain ⟨H7, c7, h7', g7⟩ := F66.ok h6
    have n7 := g7.next
    have r7 : H7.get H3.next = .row (rowG v1 v2 (stV bs 3 4) none 0 0 0) true := by rw [g7.get _ (by omega) (fun hh => by have hh : H3.next = p := hh; omega)]; exact r6
    let g : Gr := ⟨⟨v1, v2, stV bs 3 4, [], stV bs 8 4⟩, none, 0⟩
    let Y := H7.set H3.next (.row g.cells true)
    have s8 : stc H7 H3.next 4 [.int .u32 (stV bs 8 4)] = some Y := rstc' r7 (i := 4) (by simp) _
    have r8 : Y.get H3.next = .row g.cells true := by simp [Y]
    have hd : (decG bs).2 = q2 := by
      unfold decG
      rw [hq2, hq1, hq0]
      by_cases a1 : bs.length < 1
      · rw [if_pos a1, chkE_0 (j := 1), if_pos a1, chkE_ne (j := 2) (by decide), chkE_ne (j := 3) (by decide), chkE_ne (j := 8) (by decide)]
      rw [if_neg a1, chkE_0 (j := 1), if_neg a1]
      by_cases a2 : ¬bs.getD 0 0 = 71
      · rw [if_pos a2, if_neg a2, chkE_ne (j := 2) (by decide), chkE_ne (j := 3) (by decide), chkE_ne (j := 8) (by decide)]
      rw [if_neg a2, if_pos (Classical.not_not.1 a2), chkE_0 (j := 2)]
      by_cases a3 : bs.length < 2
      · rw [if_pos a3, if_pos a3, chkE_ne (j := 3) (by decide), chkE_ne (j := 8) (by decide)]
      rw [if_neg a3, if_neg a3]
      by_cases a4 : ¬inP (bs.getD 1 0) 0 15
      · rw [if_pos a4, if_neg a4, chkE_ne (j := 3) (by decide), chkE_ne (j := 8) (by decide)]
      rw [if_neg a4, if_pos (Classical.not_not.1 a4), chkE_0 (j := 3)]
      by_cases a5 : bs.length < 8
      · rw [if_pos a5]
        by_cases a6 : bs.length < 3
        · rw [if_pos a6, chkE_ne (j := 8) (by decide)]
        · rw [if_neg a6, if_pos trivial, chkE_0 (j := 8), if_pos a5]
      rw [if_neg a5, if_neg (show ¬bs.length < 3 by omega), if_pos trivial, chkE_0 (j := 8), if_neg a5]
      by_cases a7 : ¬bs.getD 7 0 ≤ 8
      · rw [if_pos a7, if_neg a7]
      · exfalso
        apply hq
        rw [hq2, hq1, hq0, chkE_0 (j := 1), if_neg a1, if_pos (Classical.not_not.1 a2), chkE_0 (j := 2), if_neg a3, if_pos (Classical.not_not.1 a4), chkE_0 (j := 3), if_neg (show ¬bs.length < 3 by omega), if_pos trivial, chkE_0 (j := 8), if_neg a5, if_pos (Classical.not_not.1 a7)]
    refine ⟨g, _, q2, Y, go _ (L0_step ?_), ⟨⟨rfl, .inl ⟨rfl, rfl, rfl⟩⟩, by show 0 ≤ _; omega⟩, fun b hb => absurd hb In1.none, h7'.set hrl, (t6.trans g7 fun _ _ h => .inl h).trans (T := fun b => b = H3.next) (chgSet' _) fun b hb hh => .inr (by have hh : b = H3.next := hh; omega), by rw [finJ_ne hq, hd], fun h => by rw [hd] at h; exact absurd h hq⟩
    rw [if_neg (by omega)]
    exact ⟨_, _, c7, Y, s8, _, _, _, _, _, _, _, rldAll r8, rfl⟩
end F54
namespace F35
theorem okG {H : Heap} {a : Option Addr} {n k : Nat} {bs : List Int} (hs : By H a n k bs) (hb : IsB bs) (hn : n ≤ 1099511627776) :
    ∃ (g : Gr) (H' : Heap), Cc 35 [.slice a n k, .int .u8 71] H = some (.tuple #[.iface 71 g.agg, .int .i64 (decG bs).2], H') ∧ GrOk H' g ∧ (∀ b, In1 g.sa b → H.next ≤ b) ∧ ((decG bs).2 = 0 → g.v = (decG bs).1) ∧ Keep H.next H H' := by
  obtain ⟨p, H2, H4, go, j4, hp, k4⟩ := start hs hb hn (y := 71) (by decide)
  obtain ⟨g, j', e', H5, c5, gok, gr, j5, g5, w5, w6⟩ := F54.ok hb j4
  obtain ⟨H6, z, g6⟩ := fin (v := .iface 71 g.agg) j5
  rw [w5] at z
  have hlt := j4.lt
  have hr := j4.rlt
  have n5 := g5.next
  refine ⟨g, H6, go _ ?_, ⟨gok.l.chg g6 fun b hb hh => by have := gr b hb; have hh : b = H2.next := hh; omega, gok.s⟩, fun b hb => by have := gr b hb; omega, w6, (k4.trans (g5.keep (by omega) fun b hb h => by rcases h with h | h <;> omega)).trans (g6.keep (by omega) fun b hb h => by have h : b = H2.next := h; omega)⟩
  rw [if_neg (by decide)]
  exact ⟨_, _, c5, z⟩
end F35
namespace F16
theorem ok {H : Heap} {a : Option Addr} {n k : Nat} {bs : List Int} (hs : By H a n k bs) (hb : IsB bs) (hn : n ≤ 1099511627776) :
    ∃ (g : Gr) (H' : Heap), Cc 16 [.slice a n k] H = some (.tuple #[g.agg, .int .i64 (decG bs).2], H') ∧ GrOk H' g ∧ g.v = (decG bs).1 ∧ (∀ b, In1 g.sa b → H.next ≤ b) ∧ Keep H.next H H' := by
  obtain ⟨H1, e1, n1, g1, k1⟩ := one H gr0.cells
  obtain ⟨g, H2, c2, gok, gap, hv, k2⟩ := F35.okG (hs.keep k1) hb hn
  have n2 := k2.next
  obtain ⟨H4, s4, g4, k4, n4⟩ := fill H2 gr0.cells g.cells rfl
  have g1' : H4.get H.next = .row gr0.cells true := by rw [(k2.th k4).get _ (by omega)]; exact g1
  have kk := k1.trans ((k2.th k4).weak (by omega))
  have gok4 := gok.keep k4
  by_cases h0 : (decG bs).2 = 0
  · let X := H4.set H.next (.row g.cells true)
    have s5 : stc H4 H.next 0 g.cells = some X := rstAll g1' rfl
    have g5 : X.get H.next = .row g.cells true := by simp [X]
    have kx : Keep H.next H X := kk.trans (Keep.set _ (Nat.le_refl _))
    refine ⟨g, X, call ⟨_, e1, _, _, _, c2, .inr ⟨_, _, rfl, ?_⟩⟩, ⟨gok4.l.chg (chgSet' _) fun b hb hh => by have := gap b hb; have hh : b = H.next := hh; omega, gok4.s⟩, hv h0, fun b hb => by have := gap b hb; omega, kx⟩
    rw [if_pos rfl]
    refine ⟨_, _, _, _, _, _, _, rfl, _, rfl, H4, s4, L0_step ?_⟩
    rw [if_pos (by rw [h0]; rfl)]
    refine ⟨_, _, _, _, _, _, _, rldAll g4, X, s5, _, _, _, _, _, _, _, rldAll g5, ?_⟩
    rw [h0]
  · let X := H4.set H.next (.row gr0.cells true)
    have s5 : stc H4 H.next 0 gr0.cells = some X := rstAll g1' rfl
    have g5 : X.get H.next = .row gr0.cells true := by simp [X]
    refine ⟨gr0, X, call ⟨_, e1, _, _, _, c2, .inr ⟨_, _, rfl, ?_⟩⟩, gr0_ok _, (decG_err h0).symm, fun b hb => absurd hb In1.none, kk.trans (Keep.set _ (Nat.le_refl _))⟩
    rw [if_pos rfl]
    refine ⟨_, _, _, _, _, _, _, rfl, _, rfl, H4, s4, L0_step ?_⟩
    rw [if_neg (by simpa using h0)]
    exact ⟨X, s5, _, _, _, _, _, _, _, rldAll g5, rfl⟩
end F16
theorem rfN_st : rfN = stV := rfl
namespace F23
theorem l0 {G : Heap} {a : Option Addr} {n k : Nat} {l : List C5} (hs : Cells G a n k l) (hn : n ≤ 1000000000) : ∀ (rest : List C5) (j : Nat) (H : Heap), l.drop j = rest → j + rest.length = n → Keep G.next G H →
    ∃ H', L0 a n k a n k (n : Int) (j : Int) H (.bool (decide (n ≤ 8 ∧ ∀ c ∈ rest, mayC c)), H') ∧ Keep H.next H H' := by
  intro rest
  induction rest with
  | nil =>
    intro j H hd hj hk
    simp only [List.length_nil] at hj
    refine ⟨H, L0_step ?_, Keep.refl _ _⟩
    rw [if_neg (by omega), show decide ((n : Int) ≤ 8) = decide (n ≤ 8 ∧ ∀ c ∈ ([] : List C5), mayC c) from decide_eq_decide.2 ⟨fun h => ⟨by omega, fun c hc => by cases hc⟩, fun h => by omega⟩]
  | cons c rest ih =>
    intro j H hd hj hk
    simp only [List.length_cons] at hj
    have sH := hs.keep hk
    obtain ⟨b, o, rfl⟩ := hs.at (by omega)
    have ra := Sl.recs C5.z sH (drop_get hd)
    obtain ⟨H2, s2, g2, k2, n2⟩ := fill H c50.cells c.cells rfl
    obtain ⟨H3, c3, k3⟩ := F39.ok c H2
    by_cases e : mayC c
    · obtain ⟨H', z, k'⟩ := ih (j + 1) H3 (drop_next hd) (by omega) (hk.trans ((k2.th k3).weak hk.next))
      refine ⟨H', L0_step ?_, (k2.th k3).th k'⟩
      rw [if_pos (by omega)]
      refine ⟨b, o, rfl, by omega, by omega, _, _, _, _, _, ra, _, rfl, H2, s2, _, _, _, _, _, rldAll g2, _, _, c3, ?_⟩
      rw [if_pos (by simpa using e), i64 (by omega) (by omega), show decide (n ≤ 8 ∧ ∀ x ∈ c :: rest, mayC x) = decide (n ≤ 8 ∧ ∀ x ∈ rest, mayC x) from decide_eq_decide.2 ⟨fun h => ⟨h.1, fun x hx => h.2 x (List.mem_cons_of_mem _ hx)⟩, fun h => ⟨h.1, fun x hx => by rcases List.mem_cons.1 hx with rfl | hx; exact e; exact h.2 x hx⟩⟩]
      exact_mod_cast z
    · refine ⟨H3, L0_step ?_, k2.th k3⟩
      rw [if_pos (by omega)]
      refine ⟨b, o, rfl, by omega, by omega, _, _, _, _, _, ra, _, rfl, H2, s2, _, _, _, _, _, rldAll g2, _, _, c3, ?_⟩
      rw [if_neg (by simpa using e), decide_eq_false (fun h => e (h.2 c (List.mem_cons_self ..)))]
theorem ok {H : Heap} {a : Option Addr} {n k : Nat} {l : List C5} (hs : Cells H a n k l) (hn : n ≤ 1000000000) : ∃ H', Cc 23 [.slice a n k] H = some (.bool (decide (cellsP l)), H') ∧ Keep H.next H H' := by
  have hl := hs.cnt C5.z (by decide)
  obtain ⟨H', z, k'⟩ := l0 hs hn l 0 H rfl (by omega) (Keep.refl _ _)
  rw [show decide (n ≤ 8 ∧ ∀ c ∈ l, mayC c) = decide (cellsP l) from decide_eq_decide.2 (by unfold cellsP; rw [hl])] at z
  exact ⟨H', call z, k'⟩
end F23
theorem c5_eq {c d : C5} : ((c.f == d.f) && ((c.s == d.s) && ((c.c == d.c) && ((c.o == d.o) && ((c.p == d.p) && true))))) = decide (c = d) := by
  cases c; cases d
  simp only [beq_dec, C5.mk.injEq, Bool.and_true, Bool.decide_and]
namespace F24
theorem l0 {H : Heap} {a a' : Option Addr} {n k k' : Nat} {l m : List C5} (h0 : Cells H a n k l) (h1 : Cells H a' n k' m) (hn : n ≤ 1000000000) : ∀ (d j : Nat), j + d = n → L0 a n k a' n k' (n : Int) (j : Int) H (.bool (decide (l.drop j = m.drop j)), H) := by
  have l0 := h0.cnt C5.z (by decide)
  have l1 := h1.cnt C5.z (by decide)
  intro d
  induction d with
  | zero =>
    intro j hj
    refine L0_step ?_
    rw [if_neg (by omega), List.drop_eq_nil_of_le (by omega), List.drop_eq_nil_of_le (by omega), decide_eq_true rfl]
  | succ d ih =>
    intro j hj
    obtain ⟨b, o, rfl⟩ := h0.at (by omega)
    obtain ⟨b', o', rfl⟩ := h1.at (by omega)
    have e0 : l.drop j = l[j] :: l.drop (j + 1) := List.drop_eq_getElem_cons (by omega)
    have e1 : m.drop j = m[j] :: m.drop (j + 1) := List.drop_eq_getElem_cons (by omega)
    have ra := Sl.recs C5.z h0 (drop_get e0)
    have rb := Sl.recs C5.z h1 (drop_get e1)
    refine L0_step ?_
    rw [if_pos (by omega)]
    refine ⟨b, o, rfl, by omega, by omega, _, _, _, _, _, ra, b', o', rfl, by omega, by omega, _, _, _, _, _, rb, ?_⟩
    rw [c5_eq, e0, e1]
    by_cases e : l[j] = m[j]
    · rw [if_pos (decide_eq_true e), i64 (by omega) (by omega), show decide (l[j] :: l.drop (j + 1) = m[j] :: m.drop (j + 1)) = decide (l.drop (j + 1) = m.drop (j + 1)) from decide_eq_decide.2 ⟨fun h => (List.cons.inj h).2, fun h => by rw [e, h]⟩]
      exact_mod_cast ih (j + 1) (by omega)
    · rw [if_neg (by simpa using e), decide_eq_false (fun h => e (List.cons.inj h).1)]
theorem ok {H : Heap} {a a' : Option Addr} {n n' k k' : Nat} {l m : List C5} (h0 : Cells H a n k l) (h1 : Cells H a' n' k' m) (hn : n ≤ 1000000000) : Cc 24 [.slice a n k, .slice a' n' k'] H = some (.bool (decide (l = m)), H) := by
  have l0' := h0.cnt C5.z (by decide)
  have l1 := h1.cnt C5.z (by decide)
  refine call ?_
  by_cases e : n = n'
  · subst e
    rw [if_pos rfl]
    have := l0 h0 h1 hn n 0 (by omega)
    simpa using this
  · rw [if_neg (by omega), decide_eq_false (fun h => e (by rw [← l0', ← l1, h]))]
end F24
theorem gv_eq {v w : GV} : v = w ↔ v.n = w.n ∧ v.d = w.d ∧ v.a = w.a ∧ v.l = w.l ∧ v.t = w.t := by cases v; cases w; simp
namespace F18
theorem ok {H : Heap} {g g' : Gr} (h : GrOk H g) (h' : GrOk H g') : ∃ H', Cc 18 [g.agg, g'.agg] H = some (.bool (decide (g.v = g'.v)), H') ∧ Keep H.next H H' := by
  obtain ⟨H1, H2, e1, e2, n1, n2, g1, g2, g3, k1, k2⟩ := two H g.cells g'.cells
  refine ⟨H2, call ⟨_, e1, _, e2, _, rldc' g2 0, _, rldc' g3 0, ?_⟩, k2⟩
  by_cases c1 : g.v.n = g'.v.n
  · rw [if_pos c1]
    refine ⟨_, rldc' g2 1, _, rldc' g3 1, ?_⟩
    by_cases c2 : g.v.d = g'.v.d
    · rw [if_pos c2]
      refine ⟨_, rldc' g2 2, _, rldc' g3 2, ?_⟩
      by_cases c3 : g.v.a = g'.v.a
      · rw [if_pos c3]
        refine ⟨_, _, _, rldc' g2 3, _, _, _, rldc' g3 3, _, _, F24.ok (h.l.keep k2) (h'.l.keep k2) h.s, ?_⟩
        by_cases c4 : g.v.l = g'.v.l
        · rw [if_pos (decide_eq_true c4)]
          refine ⟨_, rldc' g2 4, _, rldc' g3 4, ?_⟩
          rw [beq_dec, show decide (g.v = g'.v) = decide (g.v.t = g'.v.t) from decide_eq_decide.2 ⟨fun h => by rw [h], fun h => gv_eq.2 ⟨c1, c2, c3, c4, h⟩⟩]
        · rw [if_neg (by simpa using c4), decide_eq_false fun h => c4 (by rw [h])]
      · rw [if_neg c3, decide_eq_false fun h => c3 (by rw [h])]
    · rw [if_neg c2, decide_eq_false fun h => c2 (by rw [h])]
  · rw [if_neg c1, decide_eq_false fun h => c1 (by rw [h])]
end F18
namespace F30
theorem ok (key : Int) {H : Heap} {a : Option Addr} {n k : Nat} {xs : List Int} (hs : By H a n k xs) (hn : n ≤ 1000) : ∃ a' k' H', Cc 30 [.int .u64 key, .slice a n k] H = some (.slice a' (sealed key xs).length k', H') ∧ OwnI .u8 H.next H' a' (sealed key xs).length k' (sealed key xs) ∧ Keep H.next H H' := by
  obtain ⟨H1, c1, k1⟩ := F49.ok key hs (by omega)
  obtain ⟨a2, j2, H2, c2, o2, k2⟩ := F32.be (nb (tagB key xs)) (n := 4) (by omega) H1
  obtain ⟨H3, e3, n3, g3, k3⟩ := one H2 [.slice a n k, .slice a2 4 j2]
  have k12 := k1.th k2
  have hk := hs.keep (k12.th k3)
  have s2 : By H3 a2 4 j2 (beB (nb (tagB key xs)) 4) := Sl.keep o2.sl k3
  obtain ⟨a4, j4, H4, c4, o4, k4⟩ := F31.ok (l := [⟨a, n, k, xs⟩, ⟨a2, 4, j2, beB (nb (tagB key xs)) 4⟩]) (Sl.ofRow g3 (by omega)) (fun b hb => by
    simp only [List.mem_cons, List.not_mem_nil, or_false] at hb
    rcases hb with rfl | rfl
    · exact hk
    · exact s2) (by simp) (fun b hb => by
    simp only [List.mem_cons, List.not_mem_nil, or_false] at hb
    rcases hb with rfl | rfl
    · exact hn
    · simp)
  have e : ([⟨a, n, k, xs⟩, ⟨a2, 4, j2, beB (nb (tagB key xs)) 4⟩] : List Bs).flatMap Bs.xs = sealed key xs := by simp [sealed]
  rw [e] at c4 o4
  have nn := (k12.th k3).next
  exact ⟨a4, j4, H4, call ⟨_, _, c1, _, _, _, _, c2, H3, e3, _, _, _, _, c4, rfl⟩, o4.weak nn, (k12.th k3).th k4⟩
end F30
namespace F10
theorem ok (key : Int) (v : RQ) (H : Heap) : ∃ a k H', Cc 10 [.int .u64 key, v.agg] H = some (.tuple #[.slice a (askB key v).length k, .int .i64 (if mayR v then 0 else 1)], H') ∧ OwnI .u8 H.next H' a (askB key v).length k (askB key v) ∧ Keep H.next H H' := by
  obtain ⟨H1, e1, n1, g1, k1⟩ := one H v.cells
  obtain ⟨H2, c2, k2⟩ := F29.ok v H1
  have n2 := k2.next
  have g2 : H2.get H.next = .row v.cells true := by rw [k2.get _ (by omega)]; exact g1
  have k02 : Keep H.next H H2 := k1.trans (k2.weak (by omega))
  by_cases hm : mayR v
  · have ea : askB key v = sealed key (encR v) := if_pos hm
    rw [if_pos hm, ea]
    generalize hR : reserve H2 21 = R at *
    have kR : Keep H2.next H2 R := by rw [← hR]; exact Keep.reserve H2 21
    have nR : R.next = H2.next + 21 := by rw [← hR, next_reserve]
    have gR : R.get H.next = .row v.cells true := by rw [kR.get _ (by omega)]; exact g2
    obtain ⟨a4, k4, H4, c4, o4, p4⟩ := F32.be v.a (n := 4) (by omega) R
    have n4 := p4.next
    have g4 : H4.get H.next = .row v.cells true := by rw [p4.get _ (by omega)]; exact gR
    obtain ⟨a5, k5, H5, c5, o5, p5⟩ := F32.be v.c (n := 4) (by omega) H4
    have n5 := p5.next
    have g5 : H5.get H.next = .row v.cells true := by rw [p5.get _ (by omega)]; exact g4
    have hw1 : IntKind.wrap .u8 v.n = v.n := wrap8_id (inP_byte hm.1)
    have hw2 : IntKind.wrap .u8 v.p = v.p := wrap8_id (inP_byte hm.2.1)
    let Y := H5.set (H2.next + 7) (.row [.int .u8 74, .int .u8 (IntKind.wrap .u8 v.n), .int .u8 (IntKind.wrap .u8 v.p)] true)
    have gy : Y.get (H2.next + 7) = .row [.int .u8 74, .int .u8 (IntKind.wrap .u8 v.n), .int .u8 (IntKind.wrap .u8 v.p)] true := by simp [Y]
    have ky : Keep H2.next H5 Y := Keep.set _ (by omega)
    have ny : Y.next = H5.next := rfl
    obtain ⟨H6, e6, n6, g6, k6⟩ := one Y [.slice (some ⟨(H2.next + 7), 0, none⟩) 3 (UNK 1), .slice a4 4 k4, .slice a5 4 k5]
    have sy : By Y (some ⟨H2.next + 7, 0, none⟩) 3 (UNK 1) [74, v.n, v.p] := by
      have := Sl.ofRow gy (by omega)
      rw [hw1, hw2] at this; exact this
    have s4 : By Y a4 4 k4 (beB v.a 4) := Sl.chg (Sl.keep o4.sl p5) (chgSet' _) fun b hb hh => by have := (o4.lt hb).1; have hh : b = H2.next + 7 := hh; omega
    have s5 : By Y a5 4 k5 (beB v.c 4) := Sl.chg o5.sl (chgSet' _) fun b hb hh => by have := (o5.lt hb).1; have hh : b = H2.next + 7 := hh; omega
    obtain ⟨a7, k7, H7, c7, o7, p7⟩ := F31.ok (l := [⟨some ⟨H2.next + 7, 0, none⟩, 3, UNK 1, [74, v.n, v.p]⟩, ⟨a4, 4, k4, beB v.a 4⟩, ⟨a5, 4, k5, beB v.c 4⟩]) (Sl.ofRow g6 (by omega)) (fun b hb => by
      simp only [List.mem_cons, List.not_mem_nil, or_false] at hb
      rcases hb with rfl | rfl | rfl
      · exact sy.keep k6
      · exact s4.keep k6
      · exact s5.keep k6) (by simp) (fun b hb => by
      simp only [List.mem_cons, List.not_mem_nil, or_false] at hb
      rcases hb with rfl | rfl | rfl <;> simp)
    have ex : ([⟨some ⟨H2.next + 7, 0, none⟩, 3, UNK 1, [74, v.n, v.p]⟩, ⟨a4, 4, k4, beB v.a 4⟩, ⟨a5, 4, k5, beB v.c 4⟩] : List Bs).flatMap Bs.xs = encR v := by simp [encR]
    rw [ex] at c7 o7
    obtain ⟨a8, k8, H8, c8, o8, p8⟩ := F30.ok key o7.sl (by rw [encR_len]; omega)
    have k27 : Keep H2.next H2 H7 := ((((kR.trans (p4.weak (by omega))).trans (p5.weak (by omega))).trans ky).trans (k6.weak (by omega))).trans (p7.weak (by omega))
    have n7 := k27.next
    refine ⟨a8, k8, H8, call ⟨_, e1, _, _, _, _, _, rldAll g1, _, _, c2, ?_⟩, o8.weak (by omega), (k02.trans (k27.weak (by omega))).trans (p8.weak (by omega))⟩
    rw [if_pos (by simpa using hm), hR]
    exact ⟨_, rldc' gR 0, _, rldc' gR 1, _, rldc' gR 2, _, _, _, _, c4, _, rldc' gR 3, _, _, _, _, c5, H6, e6, _, _, _, _, c7, _, _, _, _, c8, rldc' g4 0, rldc' g5 0, rldc' g4 1, rldc' g5 1, rldc' g4 3, rfl⟩
  · have ea : askB key v = [] := if_neg hm
    rw [if_neg hm, ea]
    refine ⟨none, 0, H2, call ⟨_, e1, _, _, _, _, _, rldAll g1, _, _, c2, ?_⟩, OwnI.nil, k02⟩
    rw [if_neg (by simpa using hm)]
    rfl
end F10
namespace F34
theorem l0 {G : Heap} {s : Option Addr} {sn sk : Nat} {l : List C5} (hs : Cells G s sn sk l) (hm : ∀ c ∈ l, mayC c) (hn : sn ≤ 8) : ∀ (rest : List C5) (j : Nat) (xs : List Int) (a : Option Addr) (k : Nat) (H : Heap), l.drop j = rest → j + rest.length = sn → Keep G.next G H → OwnI .u8 G.next H a xs.length k xs → xs.length ≤ 100 + 5 * j →
    ∃ a' k' H', L0 a xs.length k s sn sk (sn : Int) (j : Int) H (.slice a' (xs ++ rest.flatMap cellB).length k', H') ∧ OwnI .u8 G.next H' a' (xs ++ rest.flatMap cellB).length k' (xs ++ rest.flatMap cellB) ∧ Keep G.next G H' := by
  intro rest
  induction rest with
  | nil =>
    intro j xs a k H hd hj hk ho hx
    simp only [List.length_nil] at hj
    rw [List.flatMap_nil, List.append_nil]
    refine ⟨a, k, H, L0_step ?_, ho, hk⟩
    rw [if_neg (by omega)]
  | cons c rest ih =>
    intro j xs a k H hd hj hk ho hx
    simp only [List.length_cons] at hj
    have hc := drop_get hd
    obtain ⟨b, o, rfl⟩ := hs.at (by omega)
    have ra := Sl.recs C5.z (hs.keep hk) hc
    have hkn := hk.next
    obtain ⟨H2, s2, g2, k2, n2⟩ := fill H c50.cells c.cells rfl
    have hB := mayC_bytes (hm c (List.mem_of_getElem? hc))
    have hw : ∀ x ∈ cellB c, IntKind.wrap .u8 x = x := fun x hx => wrap8_id (hB x hx)
    obtain ⟨H3, e3, n3, g3, k3⟩ := one H2 [.int .u8 (IntKind.wrap .u8 c.f), .int .u8 (IntKind.wrap .u8 c.s), .int .u8 (IntKind.wrap .u8 c.c), .int .u8 (IntKind.wrap .u8 c.o), .int .u8 (IntKind.wrap .u8 c.p)]
    have s3 : By H3 (some ⟨H2.next, 0, none⟩) 5 (UNK 1) (cellB c) := by
      have := Sl.ofRow g3 (by omega)
      rw [hw c.f (by simp [cellB]), hw c.s (by simp [cellB]), hw c.c (by simp [cellB]), hw c.o (by simp [cellB]), hw c.p (by simp [cellB])] at this
      exact this
    have k23 := k2.th k3
    obtain ⟨a4, k4, H4, c4, o4, p4⟩ := OwnI.app 1 (ho.keep k23) s3 (by omega) (by omega) (by omega)
    have el : xs.length + 5 = (xs ++ cellB c).length := by simp [cellB]
    rw [el] at c4 o4
    obtain ⟨a', k', H', z, o', k''⟩ := ih (j + 1) (xs ++ cellB c) a4 k4 H4 (drop_next hd) (by omega) ((hk.trans (k23.weak hkn)).trans p4) o4 (by rw [← el]; omega)
    rw [List.append_assoc, ← List.flatMap_cons] at z o'
    refine ⟨a', k', H', L0_step ?_, o', k''⟩
    rw [if_pos (by omega)]
    refine ⟨b, o, rfl, by omega, by omega, _, _, _, _, _, ra, _, rfl, H2, s2, _, rldc' g2 0, _, rldc' g2 1, _, rldc' g2 2, _, rldc' g2 3, _, rldc' g2 4, H3, e3, _, _, _, _, c4, ?_⟩
    rw [i64 (by omega) (by omega)]
    exact_mod_cast z
theorem ok {H : Heap} {g : Gr} (h : GrOk H g) (hm : mayG g.v) : ∃ a' k' H', Cc 34 [g.agg] H = some (.slice a' (encG g.v).length k', H') ∧ OwnI .u8 H.next H' a' (encG g.v).length k' (encG g.v) ∧ Keep H.next H H' := by
  obtain ⟨H1, e1, n1, g1, k1⟩ := one H g.cells
  have h1 := h.keep k1
  have h8 := hm.2.2.1
  generalize hR : reserve H1 19 = R at *
  have kR : Keep H1.next H1 R := by rw [← hR]; exact Keep.reserve H1 19
  have nR : R.next = H1.next + 19 := by rw [← hR, next_reserve]
  have gR : R.get H.next = .row g.cells true := by rw [kR.get _ (by omega)]; exact g1
  obtain ⟨a3, k3, H3, c3, o3, p3⟩ := F32.be g.v.a (n := 4) (by omega) R
  have n3 := p3.next
  have g3 : H3.get H.next = .row g.cells true := by rw [p3.get _ (by omega)]; exact gR
  have hw1 : IntKind.wrap .u8 g.v.n = g.v.n := wrap8_id (inP_byte hm.1)
  have hw2 : IntKind.wrap .u8 g.v.d = g.v.d := wrap8_id ⟨hm.2.1.1, by have := hm.2.1.2; omega⟩
  have hw3 : IntKind.wrap .u8 ((g.v.l.length : Nat) : Int) = (g.v.l.length : Int) := wrap8_id (by omega)
  let Y1 := H3.set (H1.next + 6) (.row [.int .u8 71, .int .u8 (IntKind.wrap .u8 g.v.n), .int .u8 (IntKind.wrap .u8 g.v.d)] true)
  let Y2 := Y1.set (H1.next + 15) (.row [.int .u8 (IntKind.wrap .u8 ((g.v.l.length : Nat) : Int))] true)
  have ky : Keep H1.next H3 Y2 := (Keep.set _ (by omega)).trans (Keep.set _ (by omega))
  have gy1 : Y2.get (H1.next + 6) = .row [.int .u8 71, .int .u8 (IntKind.wrap .u8 g.v.n), .int .u8 (IntKind.wrap .u8 g.v.d)] true := by
    show (Y1.set _ _).get _ = _
    rw [Heap.get_set_ne _ _ _ _ (by omega)]; simp [Y1]
  have gy2 : Y2.get (H1.next + 15) = .row [.int .u8 (IntKind.wrap .u8 ((g.v.l.length : Nat) : Int))] true := by simp [Y2]
  have ny : Y2.next = H3.next := rfl
  obtain ⟨H5, e5, n5, g5, k5⟩ := one Y2 [.slice (some ⟨(H1.next + 6), 0, none⟩) 3 (UNK 1), .slice a3 4 k3, .slice (some ⟨(H1.next + 15), 0, none⟩) 1 (UNK 1)]
  have sy1 : By Y2 (some ⟨H1.next + 6, 0, none⟩) 3 (UNK 1) [71, g.v.n, g.v.d] := by
    have := Sl.ofRow gy1 (by omega)
    rw [hw1, hw2] at this; exact this
  have sy2 : By Y2 (some ⟨H1.next + 15, 0, none⟩) 1 (UNK 1) [(g.v.l.length : Int)] := by
    have := Sl.ofRow gy2 (by omega)
    rw [hw3] at this; exact this
  have s3 : By Y2 a3 4 k3 (beB g.v.a 4) := Sl.chg (Sl.chg o3.sl (chgSet' _) fun b hb hh => by have := (o3.lt hb).1; have hh : b = H1.next + 6 := hh; omega) (chgSet' _) fun b hb hh => by have := (o3.lt hb).1; have hh : b = H1.next + 15 := hh; omega
  obtain ⟨a6, k6, H6, c6, o6, p6⟩ := F31.ok (l := [⟨some ⟨H1.next + 6, 0, none⟩, 3, UNK 1, [71, g.v.n, g.v.d]⟩, ⟨a3, 4, k3, beB g.v.a 4⟩, ⟨some ⟨H1.next + 15, 0, none⟩, 1, UNK 1, [(g.v.l.length : Int)]⟩]) (Sl.ofRow g5 (by omega)) (fun b hb => by
    simp only [List.mem_cons, List.not_mem_nil, or_false] at hb
    rcases hb with rfl | rfl | rfl
    · exact sy1.keep k5
    · exact s3.keep k5
    · exact sy2.keep k5) (by simp) (fun b hb => by
    simp only [List.mem_cons, List.not_mem_nil, or_false] at hb
    rcases hb with rfl | rfl | rfl <;> simp)
  have ex : ([⟨some ⟨H1.next + 6, 0, none⟩, 3, UNK 1, [71, g.v.n, g.v.d]⟩, ⟨a3, 4, k3, beB g.v.a 4⟩, ⟨some ⟨H1.next + 15, 0, none⟩, 1, UNK 1, [(g.v.l.length : Int)]⟩] : List Bs).flatMap Bs.xs = [71, g.v.n, g.v.d] ++ beB g.v.a 4 ++ [(g.v.l.length : Int)] := by simp
  rw [ex] at c6 o6
  have k16 : Keep H1.next H1 H6 := (((kR.trans (p3.weak (by omega))).trans ky).trans (k5.weak (by omega))).trans (p6.weak (by omega))
  have g6 : H6.get H.next = .row g.cells true := by rw [k16.get _ (by omega)]; exact g1
  obtain ⟨a', k', H', z, o', k''⟩ := l0 (G := H1) h1.l hm.2.2.2 h8 g.v.l 0 ([71, g.v.n, g.v.d] ++ beB g.v.a 4 ++ [(g.v.l.length : Int)]) a6 k6 H6 rfl (by omega) k16 (o6.weak (by omega)) (by simp [beB_len])
  refine ⟨a', k', H', call ⟨_, e1, ?_⟩, o'.weak (by omega), k1.trans (k''.weak (by omega))⟩
  rw [hR]
  exact ⟨_, rldc' gR 0, _, rldc' gR 1, _, rldc' gR 2, _, _, _, _, c3, _, _, _, rldc' gR 3, H5, e5, _, _, _, _, c6, rldc' g3 0, rldc' g3 1, rldc' g3 3, _, _, _, rldc' g6 3, z⟩
end F34
namespace F12
theorem ok (key : Int) {H : Heap} {g : Gr} (h : GrOk H g) : ∃ a k H', Cc 12 [.int .u64 key, g.agg] H = some (.tuple #[.slice a (giveB key g.v).length k, .int .i64 (if mayG g.v then 0 else 1)], H') ∧ OwnI .u8 H.next H' a (giveB key g.v).length k (giveB key g.v) ∧ Keep H.next H H' := by
  obtain ⟨H1, e1, n1, g1, k1⟩ := one H g.cells
  have h1 := h.keep k1
  have no : ∀ {X : Heap}, ¬mayG g.v → Keep H.next H X → (∀ rv, L0 key H.next 0 true X rv → Cc 12 [.int .u64 key, g.agg] H = some rv) → ∃ a k H', Cc 12 [.int .u64 key, g.agg] H = some (.tuple #[.slice a (giveB key g.v).length k, .int .i64 (if mayG g.v then 0 else 1)], H') ∧ OwnI .u8 H.next H' a (giveB key g.v).length k (giveB key g.v) ∧ Keep H.next H H' := by
    intro X hm kx go
    have ea : giveB key g.v = [] := if_neg hm
    rw [if_neg hm, ea]
    exact ⟨none, 0, X, go _ (L0_step (by rw [if_pos rfl]; rfl)), OwnI.nil, kx⟩
  by_cases c1 : inP g.v.n 0 15
  · by_cases c2 : g.v.d < 0
    · refine no (X := H1) (fun m => by have := m.2.1.1; omega) k1 fun rv hv => call ⟨_, e1, _, rldc' g1 0, _, _, F33.ok _ _, ?_⟩
      rw [if_pos (by simpa using c1)]
      refine ⟨_, rldc' g1 1, ?_⟩
      rw [if_pos c2]; exact hv
    by_cases c3 : g.v.d > 255
    · refine no (X := H1) (fun m => by have := m.2.1.2; omega) k1 fun rv hv => call ⟨_, e1, _, rldc' g1 0, _, _, F33.ok _ _, ?_⟩
      rw [if_pos (by simpa using c1)]
      refine ⟨_, rldc' g1 1, ?_⟩
      rw [if_neg c2]
      refine ⟨_, rldc' g1 1, ?_⟩
      rw [if_pos c3]; exact hv
    obtain ⟨H2, c4, k2⟩ := F23.ok h1.l h1.s
    have n2 := k2.next
    have k02 : Keep H.next H H2 := k1.trans (k2.weak (by omega))
    have go : ∀ rv, L0 key H.next 0 (!decide (cellsP g.v.l)) H2 rv → Cc 12 [.int .u64 key, g.agg] H = some rv := fun rv hv => by
      refine call ⟨_, e1, _, rldc' g1 0, _, _, F33.ok _ _, ?_⟩
      rw [if_pos (by simpa using c1)]
      refine ⟨_, rldc' g1 1, ?_⟩
      rw [if_neg c2]
      refine ⟨_, rldc' g1 1, ?_⟩
      rw [if_neg c3]
      exact ⟨_, _, _, rldc' g1 3, _, _, c4, hv⟩
    by_cases c5 : cellsP g.v.l
    · have hm : mayG g.v := ⟨c1, ⟨by omega, by omega⟩, c5⟩
      have ea : giveB key g.v = sealed key (encG g.v) := if_pos hm
      rw [if_pos hm, ea]
      have h2 := h1.keep k2
      have g2 : H2.get H.next = .row g.cells true := by rw [k2.get _ (by omega)]; exact g1
      obtain ⟨a3, j3, H3, c6, o3, k3⟩ := F34.ok h2 hm
      obtain ⟨a4, j4, H4, c7, o4, k4⟩ := F30.ok key o3.sl (by have := hm.2.2.1; rw [encG_len]; omega)
      have n3 := k3.next
      refine ⟨a4, j4, H4, go _ ?_, o4.weak (by omega), (k02.trans (k3.weak (by omega))).trans (k4.weak (by omega))⟩
      rw [decide_eq_true c5]
      refine L0_step ?_
      rw [if_neg (by simp)]
      exact ⟨_, _, _, _, _, _, _, rldAll g2, _, _, _, _, c6, _, _, _, _, c7, rfl⟩
    · exact no (X := H2) (fun m => c5 m.2.2) k02 fun rv hv => go rv (by rw [decide_eq_false c5]; exact hv)
  · refine no (X := H1) (fun m => c1 m.1) k1 fun rv hv => call ⟨_, e1, _, rldc' g1 0, _, _, F33.ok _ _, ?_⟩
    rw [if_neg (by simpa using c1)]; exact hv
end F12
theorem stV_drop {bs : List Int} {d : Nat} (h : d ≤ bs.length) (j w : Nat) : stV (bs.drop d) j w = stV bs (d + j) w := by
  unfold stV
  rw [List.length_drop, List.drop_drop]
  by_cases c : j + w ≤ bs.length - d
  · rw [if_pos c, if_pos (by omega)]
  · rw [if_neg c, if_neg (by omega)]
theorem rj0 {Q : Nat → Prop} {H : Heap} {p : Nat} {bs : List Int} (h : RFm Q H p bs 0) : RJ Q H p bs 0 := by
  have e1 : rfX bs 0 = bs := by unfold rfX; rw [if_pos (Nat.zero_le _), List.drop_zero]
  have e2 : rfE bs 0 = 0 := by unfold rfE; rw [if_pos (Nat.zero_le _)]
  show RFm _ H p (rfX bs 0) (rfE bs 0)
  rw [e1, e2]; exact h
namespace F15
theorem none_ {H : Heap} {N0 R0 low : Nat} (gN : H.get N0 = .row rq0.cells true) (gR : H.get R0 = .row rq0.cells true) (hl : low ≤ R0) : ∃ X, ldAll H N0 0 rq0.cells ∧ stc H R0 0 rq0.cells = some X ∧ ldAll X R0 0 rq0.cells ∧ Keep low H X :=
  ⟨_, rldAll gN, rstAll gR rfl, rldAll (vs := rq0.cells) (own := true) (by simp), Keep.set _ hl⟩
def bad (bs : List Int) : Prop := (1 < bs.length ∧ bs.getD 1 0 ≥ 16) ∨ (2 < bs.length ∧ (bs.getD 2 0 ≥ 16 ∨ bs.getD 2 0 = bs.getD 1 0))
instance (bs : List Int) : Decidable (bad bs) := by unfold bad; infer_instance
theorem ok {H : Heap} {a : Option Addr} {n k : Nat} {bs : List Int} (hs : By H a n k bs) (hb : IsB bs) (hn : n ≤ 1099511627776) :
    ∃ H', Cc 15 [.slice a n k] H = some (.tuple #[(decR bs).1.agg, .int .i64 (decR bs).2], H') ∧ Keep H.next H H' := by
  obtain ⟨H1, H2, e1, e2, n1, n2, g1, g2, g3, k1, k2⟩ := two H rq0.cells rq0.cells
  let X3 := H2.set H1.next (.row rq0.cells true)
  have w3 : stc H2 H1.next 0 rq0.cells = some X3 := rstAll g3 rfl
  have k3 : Keep H.next H X3 := k2.trans (Keep.set _ (by omega))
  have gN : X3.get H1.next = .row rq0.cells true := by simp [X3]
  have gR : X3.get H.next = .row rq0.cells true := by
    show (H2.set _ _).get _ = _
    rw [Heap.get_set_ne _ _ _ _ (by omega)]; exact g2
  have m3 : X3.next = H2.next := rfl
  have hl := hs.ln
  have s3 := hs.keep k3
  have b1 := (stV_one hb 1).2
  have b2 := (stV_one hb 2).2
  obtain ⟨X, x0, x1, x2, x3⟩ := none_ (low := H.next) gN gR (Nat.le_refl _)
  unfold decR
  by_cases c0 : n = 0
  · rw [if_pos (by omega)]
    refine ⟨X, call ⟨_, e1, _, e2, X3, w3, ?_⟩, k3.trans x3⟩
    rw [if_pos (by omega)]
    exact ⟨_, _, _, _, _, x0, X, x1, _, _, _, _, _, x2, rfl⟩
  rw [if_neg (by omega)]
  obtain ⟨b, o, rfl⟩ := hs.at (by omega)
  have ld : ∀ {Y : Heap}, Ints .u8 Y (some ⟨b, o, none⟩) n k bs → ∀ i, i < n → ldc Y b (o + i) = some (.int .u8 (bs.getD i 0)) := fun sY i hi => (Sl.seg sY).ldc (by rw [List.getElem?_map, getD_some (by omega)]; rfl)
  by_cases c1 : ¬bs.getD 0 0 = 74
  · rw [if_pos c1]
    refine ⟨X, call ⟨_, e1, _, e2, X3, w3, ?_⟩, k3.trans x3⟩
    rw [if_neg (by omega)]
    refine ⟨b, o, rfl, by omega, by omega, _, ld s3 0 (by omega), ?_⟩
    rw [if_neg c1]
    exact ⟨_, _, _, _, _, x0, X, x1, _, _, _, _, _, x2, rfl⟩
  rw [if_neg c1]
  replace c1 := Classical.not_not.1 c1
  have go : ∀ rv, L0 b o n k H.next 0 H1.next 0 (decide (bad bs)) X3 rv → Cc 15 [.slice (some ⟨b, o, none⟩) n k] H = some rv := by
    intro rv hv
    refine call ⟨_, e1, _, e2, X3, w3, ?_⟩
    rw [if_neg (by omega)]
    refine ⟨b, o, rfl, by omega, by omega, _, ld s3 0 (by omega), ?_⟩
    rw [if_pos c1]
    have part2 : ¬(1 < n ∧ bs.getD 1 0 ≥ 16) → (if (n : Int) > 2 then
        ((0 : Int) ≤ 2 ∧ (2 : Int) < (n : Int) ∧
        (∃ (t32 : Int), ldc X3 b (o + 2) = some (.int .u8 t32) ∧
        (if t32 ≥ 16 then
        (L0 b o n k H.next 0 H1.next 0 true X3 rv)
        else
        ((0 : Int) ≤ 2 ∧ (2 : Int) < (n : Int) ∧
        (∃ (t37 : Int), ldc X3 b (o + 2) = some (.int .u8 t37) ∧
        ((0 : Int) ≤ 1 ∧ (1 : Int) < (n : Int) ∧
        (∃ (t40 : Int), ldc X3 b (o + 1) = some (.int .u8 t40) ∧
        (L0 b o n k H.next 0 H1.next 0 ((t37 == t40)) X3 rv))))))))
        else
        (L0 b o n k H.next 0 H1.next 0 false X3 rv)) := by
      intro h1
      by_cases c3 : (n : Int) > 2
      · rw [if_pos c3]
        refine ⟨by omega, by omega, _, ld s3 2 (by omega), ?_⟩
        by_cases c4 : bs.getD 2 0 ≥ 16
        · rw [if_pos c4]
          rw [decide_eq_true (show bad bs from .inr ⟨by omega, .inl c4⟩)] at hv
          exact hv
        · rw [if_neg c4]
          refine ⟨by omega, by omega, _, ld s3 2 (by omega), by omega, by omega, _, ld s3 1 (by omega), ?_⟩
          rw [beq_dec, show decide (bs.getD 2 0 = bs.getD 1 0) = decide (bad bs) from decide_eq_decide.2 ⟨fun h => .inr ⟨by omega, .inr h⟩, fun h => by rcases h with ⟨h, h'⟩ | ⟨_, h | h⟩; exact absurd ⟨by omega, h'⟩ h1; exact absurd h c4; exact h⟩]
          exact hv
      · rw [if_neg c3]
        rw [decide_eq_false (show ¬bad bs from fun h => by rcases h with ⟨h, h'⟩ | ⟨h, _⟩; exact h1 ⟨by omega, h'⟩; omega)] at hv
        exact hv
    by_cases c2 : (n : Int) > 1
    · rw [if_pos c2]
      refine ⟨by omega, by omega, _, ld s3 1 (by omega), ?_⟩
      by_cases c4 : bs.getD 1 0 ≥ 16
      · rw [if_pos c4]
        rw [decide_eq_true (show bad bs from .inl ⟨by omega, c4⟩)] at hv
        exact hv
      · rw [if_neg c4]
        exact part2 fun h => c4 h.2
    · rw [if_neg c2]
      exact part2 fun h => by omega
  have told : ∀ (e : Int), (if bad bs then (3 : Int) else if n < 15 then 2 else 3) = e → (bad bs ∨ n < 15 ∨ 15 < n) → ∃ H', Cc 15 [.slice (some ⟨b, o, none⟩) n k] H = some (.tuple #[rq0.agg, .int .i64 e], H') ∧ Keep H.next H H' := by
    intro e he hc
    refine ⟨X, go _ (L0_step ?_), k3.trans x3⟩
    by_cases hbad : bad bs
    · rw [if_pos (decide_eq_true hbad)]
      rw [if_pos hbad] at he
      subst he
      exact ⟨_, _, _, _, _, x0, X, x1, _, _, _, _, _, x2, rfl⟩
    · rw [if_neg (by simpa using hbad)]
      rw [if_neg hbad] at he
      by_cases h15 : n < 15
      · rw [if_pos (by omega)]
        rw [if_pos h15] at he
        subst he
        exact ⟨_, _, _, _, _, x0, X, x1, _, _, _, _, _, x2, rfl⟩
      · rw [if_neg (by omega), if_pos (by have := hc.resolve_left hbad; omega)]
        rw [if_neg h15] at he
        subst he
        exact ⟨_, _, _, _, _, x0, X, x1, _, _, _, _, _, x2, rfl⟩
  by_cases a3 : bs.length < 2
  · rw [if_pos a3]
    have nb : ¬bad bs := fun h => by rcases h with ⟨h, _⟩ | ⟨h, _⟩ <;> omega
    exact told 2 (by rw [if_neg nb, if_pos (by omega)]) (.inr (.inl (by omega)))
  rw [if_neg a3]
  by_cases a4 : ¬inP (bs.getD 1 0) 0 15
  · rw [if_pos a4]
    have yb : bad bs := .inl ⟨by omega, by unfold inP at a4; omega⟩
    exact told 3 (by rw [if_pos yb]) (.inl yb)
  rw [if_neg a4]
  replace a4 := Classical.not_not.1 a4
  have a4' : ¬bs.getD 1 0 ≥ 16 := by have := a4.2; omega
  by_cases a5 : bs.length < 3
  · rw [if_pos a5]
    have nb : ¬bad bs := fun h => by rcases h with ⟨_, h⟩ | ⟨h, _⟩; exact a4' h; omega
    exact told 2 (by rw [if_neg nb, if_pos (by omega)]) (.inr (.inl (by omega)))
  rw [if_neg a5]
  by_cases a6 : ¬(inP (bs.getD 2 0) 0 15 ∧ bs.getD 2 0 ≠ bs.getD 1 0)
  · rw [if_pos a6]
    have yb : bad bs := .inr ⟨by omega, by
      by_cases h : bs.getD 2 0 = bs.getD 1 0
      · exact .inr h
      · refine .inl ?_
        have : ¬inP (bs.getD 2 0) 0 15 := fun c => a6 ⟨c, h⟩
        unfold inP at this; omega⟩
    exact told 3 (by rw [if_pos yb]) (.inl yb)
  rw [if_neg a6]
  replace a6 := Classical.not_not.1 a6
  have nb : ¬bad bs := fun h => by
    rcases h with ⟨_, h⟩ | ⟨_, h | h⟩
    · exact a4' h
    · have := a6.1.2; omega
    · exact a6.2 h
  by_cases a7 : bs.length < 15
  · rw [if_pos a7]
    exact told 2 (by rw [if_neg nb, if_pos (by omega)]) (.inr (.inl (by omega)))
  rw [if_neg a7]
  by_cases a8 : 15 < bs.length
  · rw [if_pos a8]
    exact told 3 (by rw [if_neg nb, if_neg (by omega)]) (.inr (.inr (by omega)))
  rw [if_neg a8]
  obtain ⟨a4, j4, p4, s4⟩ := Ints.part s3 (some 3) none 3 n (.inr rfl) (.inl ⟨rfl, rfl⟩) (by omega) (Nat.le_refl _)
  have s4 : Ints .u8 X3 a4 (n - 3) j4 (bs.drop 3) := by rw [List.take_of_length_le (by simp; omega)] at s4; exact s4
  have q4 : ∀ b', In1 a4 b' → b' = b := fun b' hb' => In1.eq.1 (psl_sub p4 b' hb')
  have r5 := RFm.mk1 (Q := fun b' => b' < H.next) s4 (by omega) fun b' hb' => by rw [q4 b' hb']; exact Sl.lt hs (In1.eq.2 rfl)
  obtain ⟨H5, e5, n5, g5, k5⟩ := one X3 [.slice a4 (n - 3) j4, .int .i64 0]
  rw [← e5] at r5
  have hb3 : IsB (bs.drop 3) := fun x hx => hb x (List.mem_of_mem_drop hx)
  obtain ⟨H6, c6, r6, f6⟩ := RJ.num hb3 (rj0 r5) 4
  obtain ⟨H7, c7, r7, f7⟩ := RJ.num hb3 r6 4
  obtain ⟨H8, c8, r8, f8⟩ := RJ.num hb3 r7 4
  rw [rfN_st, stV_drop (by omega)] at c6 c7 c8
  have f58 : Chg (fun b => b = X3.next) H5 H8 := (f6.trans f7 fun _ _ h => h).trans f8 fun _ _ h => h
  have n8 := f58.next
  have sk : ∀ {Y : Heap}, Chg (fun b => b = X3.next) H5 Y → Ints .u8 Y (some ⟨b, o, none⟩) n k bs := fun c => (s3.keep k5).chg c fun b' hb' hh => by have := Sl.lt s3 hb'; have hh : b' = X3.next := hh; omega
  have gR8 : H8.get H.next = .row rq0.cells true := by rw [f58.get _ (by omega) (fun hh => by have hh : H.next = X3.next := hh; omega), k5.get _ (by omega)]; exact gR
  let v : RQ := ⟨bs.getD 1 0, bs.getD 2 0, stV bs 3 4, stV bs 7 4, stV bs 11 4⟩
  let X9 := H8.set H.next (.row v.cells true)
  have w9 : stc H8 H.next 0 v.cells = some X9 := rstAll gR8 rfl
  have g9 : X9.get H.next = .row v.cells true := by simp [X9]
  have w9' : stc H8 H.next 0 [.int .i64 (IntKind.wrap .i64 (bs.getD 1 0)), .int .i64 (IntKind.wrap .i64 (bs.getD 2 0)), .int .u32 (IntKind.wrap .u32 (stV bs (3 + 0) 4)), .int .u32 (IntKind.wrap .u32 (stV bs (3 + (0 + 4)) 4)), .int .u32 (IntKind.wrap .u32 (stV bs (3 + (0 + 4 + 4)) 4))] = some X9 := by
    rw [i64 (by omega) (by omega), i64 (by omega) (by omega), u32_id (stV_range bs _ (by omega)), u32_id (stV_range bs _ (by omega)), u32_id (stV_range bs _ (by omega))]
    exact w9
  refine ⟨X9, go _ (L0_step ?_), (k3.trans (k5.weak (by omega))).trans ((f58.keep (by omega) fun b' hb' hh => by have hh : b' = X3.next := hh; omega).trans (Keep.set _ (Nat.le_refl _)))⟩
  rw [if_neg (by simpa using nb), if_neg (by omega), if_neg (by omega)]
  have l6 := ld (sk f6)
  have l7 := ld (sk (f6.trans f7 fun _ _ h => h))
  have l8 := ld (sk f58)
  exact ⟨_, _, _, p4, H5, e5, by omega, by omega, _, ld (s3.keep k5) 1 (by omega), by omega, by omega, _, ld (s3.keep k5) 2 (by omega), _, _, c6, _, _, c7, _, _, c8, X9, w9', l6 1 (by omega), l7 1 (by omega), l8 1 (by omega), l6 2 (by omega), l7 2 (by omega), l8 2 (by omega), _, _, _, _, _, rldAll g9, rfl⟩
end F15
namespace F17
variable {Q : Nat → Prop} {bs : List Int} {R0 N0 r X low : Nat}
theorem none_ {H : Heap} (gN : H.get N0 = .row gr0.cells true) (gR : H.get R0 = .row gr0.cells true) (hl : low ≤ R0) : ∃ Y, ldAll H N0 0 gr0.cells ∧ stc H R0 0 gr0.cells = some Y ∧ ldAll Y R0 0 gr0.cells ∧ Keep low H Y :=
  ⟨_, rldAll gN, rstAll gR rfl, rldAll (vs := gr0.cells) (own := true) (by simp), Keep.set _ hl⟩
theorem l4 {H : Heap} {n d a : Int} {l : List C5} {sa : Option Addr} {sk j : Nat} (hb : IsB bs) (hQ : ∀ b, Q b → b < low) (h : RJ Q H r bs j) (gR : H.get R0 = .row gr0.cells true) (gN : H.get N0 = .row gr0.cells true) (gX : H.get X = .row (rowG n d a sa l.length sk 0) true) (o1 : low ≤ R0) (o2 : R0 < N0) (o3 : N0 < r) (o4 : r < X) (o5 : X < H.next)
    (ol : Cells H sa l.length sk l) (al : ∀ b, In1 sa b → r < b ∧ b ≠ X) (hl : l.length ≤ 1000) :
    ∃ m H', L4 R0 0 N0 0 r 0 X 0 H (.tuple #[m.agg, .int .i64 (finE bs (j + 4))], H') ∧ GrOk H' m ∧ m.v = (if finE bs (j + 4) = 0 then ⟨n, d, a, l, stV bs j 4⟩ else gv0) ∧ Keep low H H' := by
  obtain ⟨H1, c1, h1, f1⟩ := RJ.num hb h 4
  rw [rfN_st] at c1
  have n1 := f1.next
  have gX1 : H1.get X = .row (rowG n d a sa l.length sk 0) true := by rw [f1.get _ o5 (fun hh => by have hh : X = r := hh; omega)]; exact gX
  let g : Gr := ⟨⟨n, d, a, l, stV bs j 4⟩, sa, sk⟩
  let Y := H1.set X (.row g.cells true)
  have s2 : stc H1 X 4 [.int .u32 (IntKind.wrap .u32 (stV bs j 4))] = some Y := by
    rw [u32_id (stV_range bs j (by omega))]
    exact rstc' gX1 (i := 4) (by simp) _
  have gY : Y.get X = .row g.cells true := by simp [Y]
  have h2 : RJ Q Y r bs (j + 4) := h1.chg (chgSet' _) (fun hh => by have hh : r = X := hh; omega) fun b hb' hh => by have := hQ b hb'; have hh : b = X := hh; omega
  have c3 := RJ.fin h2
  have gR2 : Y.get R0 = .row gr0.cells true := by
    show (H1.set _ _).get _ = _
    rw [Heap.get_set_ne _ _ _ _ (by omega), f1.get _ (by omega) (fun hh => by have hh : R0 = r := hh; omega)]; exact gR
  have gN2 : Y.get N0 = .row gr0.cells true := by
    show (H1.set _ _).get _ = _
    rw [Heap.get_set_ne _ _ _ _ (by omega), f1.get _ (by omega) (fun hh => by have hh : N0 = r := hh; omega)]; exact gN
  have kY : Keep low H Y := (f1.keep (by omega) fun b _ hh => by have hh : b = r := hh; omega).trans (Keep.set _ (by omega))
  have olY : Cells Y sa l.length sk l := (ol.chg f1 fun b hb' hh => by have := (al b hb').1; have hh : b = r := hh; omega).chg (chgSet' _) fun b hb' hh => (al b hb').2 hh
  have start : ∀ rv, (if finE bs (j + 4) = 0 then
      (∃ (t114c0 : Int) (t114c1 : Int) (t114c2 : Int) (t114c3a : Option Addr) (t114c3n : Nat) (t114c3k : Nat) (t114c4 : Int), ldAll Y X 0 [.int .i64 t114c0, .int .i64 t114c1, .int .u32 t114c2, .slice t114c3a t114c3n t114c3k, .int .u32 t114c4] ∧
      (∃ (H_4 : Heap), stc Y R0 0 [.int .i64 t114c0, .int .i64 t114c1, .int .u32 t114c2, .slice t114c3a t114c3n t114c3k, .int .u32 t114c4] = some H_4 ∧
      (∃ (r2c0 : Int) (r2c1 : Int) (r2c2 : Int) (r2c3a : Option Addr) (r2c3n : Nat) (r2c3k : Nat) (r2c4 : Int), ldAll H_4 R0 0 [.int .i64 r2c0, .int .i64 r2c1, .int .u32 r2c2, .slice r2c3a r2c3n r2c3k, .int .u32 r2c4] ∧
      (rv = (.tuple #[.agg #[.int .i64 r2c0, .int .i64 r2c1, .int .u32 r2c2, .slice r2c3a r2c3n r2c3k, .int .u32 r2c4], .int .i64 0], H_4)))))
      else
      (∃ (t112c0 : Int) (t112c1 : Int) (t112c2 : Int) (t112c3a : Option Addr) (t112c3n : Nat) (t112c3k : Nat) (t112c4 : Int), ldAll Y N0 0 [.int .i64 t112c0, .int .i64 t112c1, .int .u32 t112c2, .slice t112c3a t112c3n t112c3k, .int .u32 t112c4] ∧
      (∃ (H_5 : Heap), stc Y R0 0 [.int .i64 t112c0, .int .i64 t112c1, .int .u32 t112c2, .slice t112c3a t112c3n t112c3k, .int .u32 t112c4] = some H_5 ∧
      (∃ (r2c0_1 : Int) (r2c1_1 : Int) (r2c2_1 : Int) (r2c3a_1 : Option Addr) (r2c3n_1 : Nat) (r2c3k_1 : Nat) (r2c4_1 : Int), ldAll H_5 R0 0 [.int .i64 r2c0_1, .int .i64 r2c1_1, .int .u32 r2c2_1, .slice r2c3a_1 r2c3n_1 r2c3k_1, .int .u32 r2c4_1] ∧
      (rv = (.tuple #[.agg #[.int .i64 r2c0_1, .int .i64 r2c1_1, .int .u32 r2c2_1, .slice r2c3a_1 r2c3n_1 r2c3k_1, .int .u32 r2c4_1], .int .i64 (finE bs (j + 4))], H_5)))))) → L4 R0 0 N0 0 r 0 X 0 H rv := by
    intro rv hv
    exact L4_step ⟨_, _, c1, Y, s2, _, _, c3, hv⟩
  by_cases h0 : finE bs (j + 4) = 0
  · rw [if_pos h0]
    let Z := Y.set R0 (.row g.cells true)
    have w : stc Y R0 0 g.cells = some Z := rstAll gR2 rfl
    have gZ : Z.get R0 = .row g.cells true := by simp [Z]
    refine ⟨g, Z, start _ ?_, ⟨olY.chg (chgSet' _) fun b hb' hh => by have := (al b hb').1; have hh : b = R0 := hh; omega, by show l.length ≤ _; omega⟩, rfl, kY.trans (Keep.set _ o1)⟩
    rw [if_pos h0]
    refine ⟨_, _, _, _, _, _, _, rldAll gY, Z, w, _, _, _, _, _, _, _, rldAll gZ, ?_⟩
    rw [h0]
  · rw [if_neg h0]
    obtain ⟨Z, x0, x1, x2, x3⟩ := none_ (low := low) gN2 gR2 o1
    refine ⟨gr0, Z, start _ ?_, gr0_ok _, rfl, kY.trans x3⟩
    rw [if_neg h0]
    exact ⟨_, _, _, _, _, _, _, x0, Z, x1, _, _, _, _, _, _, _, x2, rfl⟩
theorem l3 {n1 d1 a1 : Int} {N : Nat} (hb : IsB bs) (hQ : ∀ b, Q b → b < low) (hN : N ≤ 8) (o1 : low ≤ R0) (o2 : R0 < N0) (o3 : N0 < r) (o4 : r < X) : ∀ (d i : Nat) (acc : List C5) (sa : Option Addr) (sk : Nat) (H : Heap), i + d = N → acc.length = i → 8 + 5 * i ≤ bs.length → RJ Q H r bs (8 + 5 * i) → X < H.next → H.get R0 = .row gr0.cells true → H.get N0 = .row gr0.cells true → H.get X = .row (rowG n1 d1 a1 sa i sk 0) true → Own (r + 1) H 5 sa i sk (acc.flatMap C5.cells) → ¬In1 sa X →
    ∃ m H', L3 R0 0 N0 0 r 0 X 0 (N : Int) (i : Int) H (.tuple #[m.agg, .int .i64 (endG bs n1 d1 a1 (decCs bs d (8 + 5 * i) acc) (8 + 5 * N)).2], H') ∧ GrOk H' m ∧ m.v = (endG bs n1 d1 a1 (decCs bs d (8 + 5 * i) acc) (8 + 5 * N)).1 ∧ Keep low H H' := by
  intro d
  induction d with
  | zero =>
    intro i acc sa sk H hi hl hlen h hXn gR gN gX o hap
    have e : i = N := by omega
    subst e
    subst hl
    obtain ⟨m, H', z, q1, q2, q3⟩ := l4 (low := low) (n := n1) (d := d1) (a := a1) (l := acc) hb hQ h gR gN gX o1 o2 o3 o4 hXn o.sl (fun b hb' => ⟨by have := (o.lt hb').1; omega, fun hh => hap (hh ▸ hb')⟩) (by omega)
    have ee : endG bs n1 d1 a1 (decCs bs 0 (8 + 5 * acc.length) acc) (8 + 5 * acc.length) = if finE bs (8 + 5 * acc.length + 4) ≠ 0 then (gv0, finE bs (8 + 5 * acc.length + 4)) else (⟨n1, d1, a1, acc, stV bs (8 + 5 * acc.length) 4⟩, 0) := by
      unfold endG decCs
      rw [if_neg (fun c => c rfl)]
    rw [ee]
    refine ⟨m, H', L3_step ?_, q1, ?_, q3⟩
    · rw [if_neg (by omega)]
      by_cases h0 : finE bs (8 + 5 * acc.length + 4) = 0
      · rw [if_neg (fun c => c h0)]; rw [h0] at z; exact z
      · rw [if_pos h0]; exact z
    · rw [q2]
      by_cases h0 : finE bs (8 + 5 * acc.length + 4) = 0
      · rw [if_pos h0, if_neg (fun c => c h0)]
      · rw [if_neg h0, if_pos h0]
  | succ d ih =>
    intro i acc sa sk H hi hl hlen h hXn gR gN gX o hap
    obtain ⟨a1', k1', H1, c1, w1, h1, f1⟩ := RJ.raw h 5
    have n1' := f1.next
    have gR1 : H1.get R0 = .row gr0.cells true := by rw [f1.get _ (by omega) (fun hh => by have hh : R0 = r := hh; omega)]; exact gR
    have gN1 : H1.get N0 = .row gr0.cells true := by rw [f1.get _ (by omega) (fun hh => by have hh : N0 = r := hh; omega)]; exact gN
    have gX1 : H1.get X = .row (rowG n1 d1 a1 sa i sk 0) true := by rw [f1.get _ hXn (fun hh => by have hh : X = r := hh; omega)]; exact gX
    have o1' : Own (r + 1) H1 5 sa i sk (acc.flatMap C5.cells) := o.chg f1 fun b hb' hh => by have := (o.lt hb').1; have hh : b = r := hh; omega
    have kf1 : Keep low H H1 := f1.keep (by omega) fun b _ hh => by have hh : b = r := hh; omega
    by_cases c5 : bs.length < 8 + 5 * i + 5
    · -- too short
      have ee : endG bs n1 d1 a1 (decCs bs (d + 1) (8 + 5 * i) acc) (8 + 5 * N) = (gv0, 2) := by
        unfold decCs endG
        rw [if_pos c5, if_pos (show ¬(2 : Int) = 0 by decide)]
      rw [ee]
      show ∃ m H', L3 R0 0 N0 0 r 0 X 0 (N : Int) (i : Int) H (.tuple #[m.agg, .int .i64 2], H') ∧ GrOk H' m ∧ m.v = gv0 ∧ Keep low H H'
      subst hl
      obtain ⟨m, H', z, q1, q2, q3⟩ := l4 (low := low) (n := n1) (d := d1) (a := a1) (l := acc) hb hQ h1 gR1 gN1 gX1 o1 o2 o3 o4 (by omega) o1'.sl (fun b hb' => ⟨by have := (o1'.lt hb').1; omega, fun hh => hap (hh ▸ hb')⟩) (by omega)
      have ef : finE bs (8 + 5 * acc.length + 5 + 4) = 2 := by unfold finE; rw [if_pos (by omega)]
      rw [ef] at z q2
      rw [if_neg (by decide)] at q2
      refine ⟨m, H', L3_step ?_, q1, q2, kf1.trans q3⟩
      rw [if_pos (by omega)]
      refine ⟨_, _, _, _, c1, _, h1.err, ?_⟩
      have e2 : rfE bs (8 + 5 * acc.length + 5) = 2 := by unfold rfE; rw [if_neg (by omega)]
      rw [e2, if_neg (by decide)]
      exact z
    -- a cell
    have hT : rfT bs (8 + 5 * i) 5 = (bs.drop (8 + 5 * i)).take 5 := by unfold rfT; rw [if_pos (by omega)]
    have hTl : (rfT bs (8 + 5 * i) 5).length = 5 := by rw [hT]; simp; omega
    have hTg : ∀ t, t < 5 → (rfT bs (8 + 5 * i) 5)[t]? = some (bs.getD (8 + 5 * i + t) 0) := fun t ht => by
      rw [hT, List.getElem?_take, if_pos ht, List.getElem?_drop]; exact getD_some (by omega)
    rw [hTl] at c1 w1
    have hE : rfE bs (8 + 5 * i + 5) = 0 := by unfold rfE; rw [if_pos (by omega)]
    obtain ⟨b, ob, rfl⟩ := w1.sl.at (by omega)
    let c : C5 := cellAt bs (8 + 5 * i)
    have hbt : ∀ t, 0 ≤ bs.getD t 0 ∧ bs.getD t 0 < 256 := fun t => (stV_one hb t).2
    have hw : ∀ t, IntKind.wrap .i64 (bs.getD t 0) = bs.getD t 0 := fun t => by have := hbt t; exact i64 (by omega) (by omega)
    obtain ⟨H3, s3, g3, k3, n3⟩ := fill H1 c50.cells c.cells rfl
    have s3' : stc (H1.push (.row c50.cells true)) H1.next 0 [.int .i64 (IntKind.wrap .i64 (bs.getD (8 + 5 * i + 0) 0)), .int .i64 (IntKind.wrap .i64 (bs.getD (8 + 5 * i + 1) 0)), .int .i64 (IntKind.wrap .i64 (bs.getD (8 + 5 * i + 2) 0)), .int .i64 (IntKind.wrap .i64 (bs.getD (8 + 5 * i + 3) 0)), .int .i64 (IntKind.wrap .i64 (bs.getD (8 + 5 * i + 4) 0))] = some H3 := by
      rw [hw, hw, hw, hw, hw]; exact s3
    have k2 : Keep H1.next H1 (H1.push (.row c50.cells true)) := Keep.push _ (Nat.le_refl _)
    have ld : ∀ {Y : Heap}, Keep H1.next H1 Y → ∀ t, t < 5 → ldc Y b (ob + t) = some (.int .u8 (bs.getD (8 + 5 * i + t) 0)) := fun kY t ht => (Sl.seg (Sl.keep w1.sl kY)).ldc (by rw [List.getElem?_map, hTg t ht]; rfl)
    obtain ⟨H4, c4, k4⟩ := F39.ok c H3
    have k34 := k3.th k4
    have n4 := k4.next
    have g4 : H4.get H1.next = .row c.cells true := by rw [k4.get _ (by omega)]; exact g3
    have gR4 : H4.get R0 = .row gr0.cells true := by rw [k34.get _ (by omega)]; exact gR1
    have gN4 : H4.get N0 = .row gr0.cells true := by rw [k34.get _ (by omega)]; exact gN1
    have gX4 : H4.get X = .row (rowG n1 d1 a1 sa i sk 0) true := by rw [k34.get _ (by omega)]; exact gX1
    have o4' := o1'.keep k34
    have kk4 : Keep low H H4 := kf1.trans (k34.weak (by omega))
    by_cases hm : mayC c
    · obtain ⟨H5, e5, n5, g5, k5⟩ := one H4 c.cells
      have s5 : Sl H5 5 (some ⟨H4.next, 0, none⟩) 1 (UNK 5) c.cells := by
        rw [e5]; exact (Own.new (H := H4) (z := 5) (n := 1) (vs := c.cells) rfl).sl
      obtain ⟨a6, k6, H6, c6, o6, g6, f6⟩ := (o4'.keep k5).append' (by_ := 40) s5 (by decide) (by omega) (by omega) (by omega)
      have ef : acc.flatMap C5.cells ++ c.cells = (acc ++ [c]).flatMap C5.cells := by simp
      rw [ef] at o6
      have n6 := g6.next
      have low6 : ∀ b', b' ≤ r → ¬In1 sa b' := fun b' hb' hh => by have := (o4'.lt hh).1; omega
      have gX6 : H6.get X = .row (rowG n1 d1 a1 sa i sk 0) true := by rw [g6.get _ (by omega) hap, k5.get _ (by omega)]; exact gX4
      let Y := H6.set X (.row (rowG n1 d1 a1 a6 (i + 1) k6 0) true)
      have s7 : stc H6 X 3 [.slice a6 (i + 1) k6] = some Y := rstc' gX6 (i := 3) (by simp) _
      have hap6 : ¬In1 a6 X := fun hh => by
        rcases f6 X hh with hh | hh
        · exact hap hh
        · omega
      have o7 : Own (r + 1) Y 5 a6 (i + 1) k6 ((acc ++ [c]).flatMap C5.cells) := o6.chg (chgSet' _) fun b' hb' hh => hap6 ((show b' = X from hh) ▸ hb')
      have t46 : Chg (fun b' => r < b') H4 Y := ((k5.chg0 (S := fun b' => r < b')).trans g6 fun b' _ hh => Classical.byContradiction fun c => low6 b' (by omega) hh).trans (T := fun b' => b' = X) (chgSet' _) fun b' _ hh => by have hh : b' = X := hh; omega
      have gR7 : Y.get R0 = .row gr0.cells true := by rw [t46.get _ (by omega) (by omega)]; exact gR4
      have gN7 : Y.get N0 = .row gr0.cells true := by rw [t46.get _ (by omega) (by omega)]; exact gN4
      have h7 : RJ Q Y r bs (8 + 5 * (i + 1)) := by
        rw [show 8 + 5 * (i + 1) = 8 + 5 * i + 5 by omega]
        exact (h1.new k34).chg t46 (fun hh => by omega) fun b' hb' hh => by have := hQ b' hb'; omega
      obtain ⟨m, H', z, q1, q2, q3⟩ := ih (i + 1) (acc ++ [c]) a6 k6 Y (by omega) (by simp [hl]) (by omega) h7 (by show X < H6.next; omega) gR7 gN7 (by simp [Y]) o7 hap6
      have ed : decCs bs (d + 1) (8 + 5 * i) acc = decCs bs d (8 + 5 * (i + 1)) (acc ++ [c]) := by
        conv => lhs; unfold decCs
        rw [if_neg c5, if_pos hm, show 8 + 5 * (i + 1) = 8 + 5 * i + 5 by omega]
      rw [ed]
      refine ⟨m, H', L3_step ?_, q1, q2, (kk4.trans (t46.keep (by omega) fun b' _ hh => by omega)).trans q3⟩
      rw [if_pos (by omega)]
      refine ⟨_, _, _, _, c1, _, h1.err, ?_⟩
      rw [if_pos hE]
      refine ⟨b, ob, rfl, by omega, by omega, _, ld (Keep.refl _ _) 0 (by omega), by omega, by omega, _, ld (Keep.refl _ _) 1 (by omega), by omega, by omega, _, ld (Keep.refl _ _) 2 (by omega), by omega, by omega, _, ld (Keep.refl _ _) 3 (by omega), by omega, by omega, _, ld (Keep.refl _ _) 4 (by omega), _, rfl, H3, s3', ld k2 0 (by omega), ld k2 1 (by omega), ld k2 2 (by omega), ld k2 3 (by omega), ld k2 4 (by omega), _, _, _, _, _, rldAll g3, _, _, c4, ?_⟩
      rw [if_pos (decide_eq_true hm), i64 (by omega) (by omega)]
      exact ⟨_, _, _, rldc' gX4 3, _, _, _, _, _, rldAll g4, H5, e5, _, _, _, _, c6, Y, s7, by exact_mod_cast z⟩
    · have ee : endG bs n1 d1 a1 (decCs bs (d + 1) (8 + 5 * i) acc) (8 + 5 * N) = (gv0, 3) := by
        unfold decCs endG
        rw [if_neg c5, if_neg hm, if_pos (show ¬(3 : Int) = 0 by decide)]
      rw [ee]
      show ∃ m H', L3 R0 0 N0 0 r 0 X 0 (N : Int) (i : Int) H (.tuple #[m.agg, .int .i64 3], H') ∧ GrOk H' m ∧ m.v = gv0 ∧ Keep low H H'
      obtain ⟨Z, x0, x1, x2, x3⟩ := none_ (low := low) gN4 gR4 o1
      refine ⟨gr0, Z, L3_step ?_, gr0_ok _, rfl, kk4.trans x3⟩
      rw [if_pos (by omega)]
      refine ⟨_, _, _, _, c1, _, h1.err, ?_⟩
      rw [if_pos hE]
      refine ⟨b, ob, rfl, by omega, by omega, _, ld (Keep.refl _ _) 0 (by omega), by omega, by omega, _, ld (Keep.refl _ _) 1 (by omega), by omega, by omega, _, ld (Keep.refl _ _) 2 (by omega), by omega, by omega, _, ld (Keep.refl _ _) 3 (by omega), by omega, by omega, _, ld (Keep.refl _ _) 4 (by omega), _, rfl, H3, s3', ld k2 0 (by omega), ld k2 1 (by omega), ld k2 2 (by omega), ld k2 3 (by omega), ld k2 4 (by omega), _, _, _, _, _, rldAll g3, _, _, c4, ?_⟩
      rw [if_neg (by simpa using hm)]
      exact ⟨_, _, _, _, _, _, _, x0, Z, x1, _, _, _, _, _, _, _, x2, rfl⟩
theorem ok {H : Heap} {a0 : Option Addr} {n0 k0 : Nat} (hs : By H a0 n0 k0 bs) (hb : IsB bs) (hn : n0 ≤ 1099511627776) :
    ∃ (m : Gr) (H' : Heap), Cc 17 [.slice a0 n0 k0] H = some (.tuple #[m.agg, .int .i64 (decG bs).2], H') ∧ GrOk H' m ∧ m.v = (decG bs).1 ∧ Keep H.next H H' := by
  obtain ⟨H1, H2, e1, e2, n1, n2, g1, g2, g3, k1, k2⟩ := two H gr0.cells gr0.cells
  let X3 := H2.set H1.next (.row gr0.cells true)
  have w3 : stc H2 H1.next 0 gr0.cells = some X3 := rstAll g3 rfl
  have k3 : Keep H.next H X3 := k2.trans (Keep.set _ (by omega))
  have gN3 : X3.get H1.next = .row gr0.cells true := by simp [X3]
  have gR3 : X3.get H.next = .row gr0.cells true := by
    show (H2.set _ _).get _ = _
    rw [Heap.get_set_ne _ _ _ _ (by omega)]; exact g2
  have m3 : X3.next = H2.next := rfl
  have r4 := RFm.mk1 (Q := fun b => b < H.next) (hs.keep k3) hn fun b hb => Sl.lt hs hb
  obtain ⟨H4, e4, n4, g4, k4⟩ := one X3 [.slice a0 n0 k0, .int .i64 0]
  rw [← e4] at r4
  obtain ⟨H5, c5, r5, f5⟩ := RJ.u8 hb (rj0 r4)
  have r5 : RJ (fun b => b < H.next) H5 X3.next bs 1 := r5
  have n5 := f5.next
  have gN5 : H5.get H1.next = .row gr0.cells true := by rw [f5.get _ (by omega) (fun hh => by have hh : H1.next = X3.next := hh; omega), k4.get _ (by omega)]; exact gN3
  have gR5 : H5.get H.next = .row gr0.cells true := by rw [f5.get _ (by omega) (fun hh => by have hh : H.next = X3.next := hh; omega), k4.get _ (by omega)]; exact gR3
  have k5 : Keep H.next H H5 := (k3.trans (k4.weak (by omega))).trans (f5.keep (by omega) fun b _ hh => by have hh : b = X3.next := hh; omega)
  have go : ∀ rv, L0 H.next 0 H1.next 0 X3.next 0 (decide (1 ≤ bs.length ∧ ¬bs.getD 0 0 = 71)) H5 rv → Cc 17 [.slice a0 n0 k0] H = some rv := by
    intro rv hv
    refine call ⟨_, e1, _, e2, X3, w3, H4, e4, _, _, c5, _, r5.err, ?_⟩
    unfold rfE
    by_cases h1 : 1 ≤ bs.length
    · rw [if_pos h1, if_pos rfl, beq_dec, show (!decide (bs.getD 0 0 = 71)) = decide (1 ≤ bs.length ∧ ¬bs.getD 0 0 = 71) by rw [← decide_not]; exact decide_eq_decide.2 ⟨fun h => ⟨h1, h⟩, fun h => h.2⟩]
      exact hv
    · rw [if_neg h1, if_neg (by decide)]
      rw [decide_eq_false (fun h => h1 h.1)] at hv
      exact hv
  by_cases b0 : 1 ≤ bs.length ∧ ¬bs.getD 0 0 = 71
  · have ed : decG bs = (gv0, 3) := by unfold decG; rw [if_neg (by omega), if_pos b0.2]
    rw [ed]
    obtain ⟨Z, x0, x1, x2, x3⟩ := none_ (low := H.next) gN5 gR5 (Nat.le_refl _)
    refine ⟨gr0, Z, go _ ?_, gr0_ok _, rfl, k5.trans x3⟩
    rw [decide_eq_true b0]
    refine L0_step ?_
    rw [if_pos rfl]
    exact ⟨_, _, _, _, _, _, _, x0, Z, x1, _, _, _, _, _, _, _, x2, rfl⟩
  rw [decide_eq_false b0] at go
  obtain ⟨H6, c6, r6, f6⟩ := RJ.u8 hb r5
  have r6 : RJ (fun b => b < H.next) H6 X3.next bs 2 := r6
  have n6 := f6.next
  have gN6 : H6.get H1.next = .row gr0.cells true := by rw [f6.get _ (by omega) (fun hh => by have hh : H1.next = X3.next := hh; omega)]; exact gN5
  have gR6 : H6.get H.next = .row gr0.cells true := by rw [f6.get _ (by omega) (fun hh => by have hh : H.next = X3.next := hh; omega)]; exact gR5
  obtain ⟨H8, s8, g8, k8, n8⟩ := fill H6 gr0.cells (rowG (bs.getD 1 0) 0 0 none 0 0 0) rfl
  have r8 : RJ (fun b => b < H.next) H8 X3.next bs 2 := r6.new k8
  have gN8 : H8.get H1.next = .row gr0.cells true := by rw [k8.get _ (by omega)]; exact gN6
  have gR8 : H8.get H.next = .row gr0.cells true := by rw [k8.get _ (by omega)]; exact gR6
  have kk8 : Keep H.next H H8 := (k5.trans (f6.keep (by omega) fun b _ hh => by have hh : b = X3.next := hh; omega)).trans (k8.weak (by omega))
  have go1 : ∀ rv, L1 H.next 0 H1.next 0 X3.next 0 H6.next 0 (decide (2 ≤ bs.length ∧ ¬inP (bs.getD 1 0) 0 15)) H8 rv → Cc 17 [.slice a0 n0 k0] H = some rv := by
    intro rv hv
    refine go _ (L0_step ?_)
    rw [if_neg (by simp)]
    refine ⟨_, _, c6, _, rfl, H8, s8, _, r8.err, ?_⟩
    unfold rfE
    by_cases h1 : 2 ≤ bs.length
    · rw [if_pos h1, if_pos rfl]
      refine ⟨_, rldc' g8 0, _, _, F33.ok _ _, ?_⟩
      rw [show (!decide (inP (bs.getD 1 0) 0 15)) = decide (2 ≤ bs.length ∧ ¬inP (bs.getD 1 0) 0 15) by rw [← decide_not]; exact decide_eq_decide.2 ⟨fun h => ⟨h1, h⟩, fun h => h.2⟩]
      exact hv
    · rw [if_neg h1, if_neg (by decide)]
      rw [decide_eq_false (fun h => h1 h.1)] at hv
      exact hv
  by_cases b1 : 2 ≤ bs.length ∧ ¬inP (bs.getD 1 0) 0 15
  · have ed : decG bs = (gv0, 3) := by unfold decG; rw [if_neg (by omega), if_neg (fun c => b0 ⟨by omega, c⟩), if_neg (by omega), if_pos b1.2]
    rw [ed]
    obtain ⟨Z, x0, x1, x2, x3⟩ := none_ (low := H.next) gN8 gR8 (Nat.le_refl _)
    refine ⟨gr0, Z, go1 _ ?_, gr0_ok _, rfl, kk8.trans x3⟩
    rw [decide_eq_true b1]
    refine L1_step ?_
    rw [if_pos rfl]
    exact ⟨_, _, _, _, _, _, _, x0, Z, x1, _, _, _, _, _, _, _, x2, rfl⟩
  rw [decide_eq_false b1] at go1
  obtain ⟨H9, c9, r9, f9⟩ := RJ.u8 hb r8
  have n9 := f9.next
  have g9 : H9.get H6.next = .row (rowG (bs.getD 1 0) 0 0 none 0 0 0) true := by rw [f9.get _ (by omega) (fun hh => by have hh : H6.next = X3.next := hh; omega)]; exact g8
  let Y10 := H9.set H6.next (.row (rowG (bs.getD 1 0) (bs.getD 2 0) 0 none 0 0 0) true)
  have s10 : stc H9 H6.next 1 [.int .i64 (bs.getD 2 0)] = some Y10 := rstc' g9 (i := 1) (by simp) _
  have g10 : Y10.get H6.next = .row (rowG (bs.getD 1 0) (bs.getD 2 0) 0 none 0 0 0) true := by simp [Y10]
  have r10 : RJ (fun b => b < H.next) Y10 X3.next bs 3 := r9.chg (chgSet' _) (fun hh => by have hh : X3.next = H6.next := hh; omega) fun b hb' hh => by have hh : b = H6.next := hh; omega
  obtain ⟨H11, c11, r11, f11⟩ := RJ.num hb r10 4
  rw [rfN_st] at c11
  have n10 : Y10.next = H9.next := rfl
  have n11 := f11.next
  have g11 : H11.get H6.next = .row (rowG (bs.getD 1 0) (bs.getD 2 0) 0 none 0 0 0) true := by rw [f11.get _ (by omega) (fun hh => by have hh : H6.next = X3.next := hh; omega)]; exact g10
  let Y12 := H11.set H6.next (.row (rowG (bs.getD 1 0) (bs.getD 2 0) (stV bs 3 4) none 0 0 0) true)
  have s12 : stc H11 H6.next 2 [.int .u32 (IntKind.wrap .u32 (stV bs 3 4))] = some Y12 := by rw [u32_id (stV_range bs 3 (by omega))]; exact rstc' g11 (i := 2) (by simp) _
  have g12 : Y12.get H6.next = .row (rowG (bs.getD 1 0) (bs.getD 2 0) (stV bs 3 4) none 0 0 0) true := by simp [Y12]
  have r12 : RJ (fun b => b < H.next) Y12 X3.next bs 7 := r11.chg (chgSet' _) (fun hh => by have hh : X3.next = H6.next := hh; omega) fun b hb' hh => by have hh : b = H6.next := hh; omega
  have n12 : Y12.next = H11.next := rfl
  obtain ⟨H13, c13, r13, f13⟩ := RJ.u8 hb r12
  have r13 : RJ (fun b => b < H.next) H13 X3.next bs 8 := r13
  have n13 := f13.next
  have g13 : H13.get H6.next = .row (rowG (bs.getD 1 0) (bs.getD 2 0) (stV bs 3 4) none 0 0 0) true := by rw [f13.get _ (by omega) (fun hh => by have hh : H6.next = X3.next := hh; omega)]; exact g12
  have ch : Chg (fun b => b = X3.next ∨ b = H6.next) H8 H13 := by
    have a := (f9.weak (T := fun b => b = X3.next ∨ b = H6.next) fun _ _ h => .inl h).trans (T := fun b => b = H6.next) (chgSet' (.row (rowG (bs.getD 1 0) (bs.getD 2 0) 0 none 0 0 0) true)) fun _ _ h => .inr h
    have b := a.trans f11 fun _ _ h => .inl h
    have c := b.trans (T := fun b => b = H6.next) (chgSet' (.row (rowG (bs.getD 1 0) (bs.getD 2 0) (stV bs 3 4) none 0 0 0) true)) fun _ _ h => .inr h
    exact c.trans f13 fun _ _ h => .inl h
  have gN13 : H13.get H1.next = .row gr0.cells true := by rw [ch.get _ (by omega) (fun hh => by rcases hh with hh | hh <;> omega)]; exact gN8
  have gR13 : H13.get H.next = .row gr0.cells true := by rw [ch.get _ (by omega) (fun hh => by rcases hh with hh | hh <;> omega)]; exact gR8
  have kk13 : Keep H.next H H13 := kk8.trans (ch.keep (by omega) fun b _ hh => by rcases hh with hh | hh <;> omega)
  have h7 := (stV_one hb 7).2
  have go2 : ∀ rv, L2 H.next 0 H1.next 0 X3.next 0 H6.next 0 (bs.getD 7 0) (decide (8 ≤ bs.length ∧ ¬bs.getD 7 0 ≤ 8)) H13 rv → Cc 17 [.slice a0 n0 k0] H = some rv := by
    intro rv hv
    refine go1 _ (L1_step ?_)
    rw [if_neg (by simp)]
    refine ⟨_, _, c9, Y10, s10, _, _, c11, Y12, s12, _, _, c13, _, r13.err, ?_⟩
    unfold rfE
    by_cases h1 : 8 ≤ bs.length
    · rw [if_pos h1, if_pos rfl, show decide (bs.getD 7 0 > 8) = decide (8 ≤ bs.length ∧ ¬bs.getD 7 0 ≤ 8) from decide_eq_decide.2 (by omega)]
      exact hv
    · rw [if_neg h1, if_neg (by decide)]
      rw [decide_eq_false (fun h => h1 h.1)] at hv
      exact hv
  by_cases b7 : 8 ≤ bs.length ∧ ¬bs.getD 7 0 ≤ 8
  · have ed : decG bs = (gv0, 3) := by
      unfold decG
      rw [if_neg (by omega), if_neg (fun c => b0 ⟨by omega, c⟩), if_neg (by omega), if_neg (fun c => b1 ⟨by omega, c⟩), if_neg (by omega), if_pos b7.2]
    rw [ed]
    obtain ⟨Z, x0, x1, x2, x3⟩ := none_ (low := H.next) gN13 gR13 (Nat.le_refl _)
    refine ⟨gr0, Z, go2 _ ?_, gr0_ok _, rfl, kk13.trans x3⟩
    rw [decide_eq_true b7]
    refine L2_step ?_
    rw [if_pos rfl]
    exact ⟨_, _, _, _, _, _, _, x0, Z, x1, _, _, _, _, _, _, _, x2, rfl⟩
  rw [decide_eq_false b7] at go2
  by_cases l8 : 8 ≤ bs.length
  · obtain ⟨N, hN⟩ : ∃ N : Nat, bs.getD 7 0 = (N : Int) := ⟨(bs.getD 7 0).toNat, by omega⟩
    have hN8 : N ≤ 8 := Classical.byContradiction fun c => b7 ⟨l8, by omega⟩
    have ed : decG bs = endG bs (bs.getD 1 0) (bs.getD 2 0) (stV bs 3 4) (decCs bs N (8 + 5 * 0) []) (8 + 5 * N) := by
      unfold decG
      rw [if_neg (by omega), if_neg (fun c => b0 ⟨by omega, c⟩), if_neg (by omega), if_neg (fun c => b1 ⟨by omega, c⟩), if_neg (by omega), if_neg (fun c => b7 ⟨l8, c⟩), hN, Int.toNat_natCast]
    obtain ⟨m, H', z, q1, q2, q3⟩ := l3 (n1 := bs.getD 1 0) (d1 := bs.getD 2 0) (a1 := stV bs 3 4) (N := N) (low := H.next) (R0 := H.next) (N0 := H1.next) (r := X3.next) (X := H6.next) hb (fun b h => h) hN8 (Nat.le_refl _) (by omega) (by omega) (by omega) N 0 [] none 0 H13 (by omega) rfl (by omega) r13 (by omega) gR13 gN13 g13 ⟨rfl, .inl ⟨rfl, rfl, rfl⟩⟩ In1.none
    rw [ed]
    refine ⟨m, H', go2 _ ?_, q1, q2, kk13.trans q3⟩
    refine L2_step ?_
    rw [if_neg (by simp), hN]
    exact z
  · have ed : (decG bs) = (gv0, 2) := by
      unfold decG
      by_cases a1 : bs.length < 1
      · rw [if_pos a1]
      rw [if_neg a1, if_neg (fun c => b0 ⟨by omega, c⟩)]
      by_cases a3 : bs.length < 2
      · rw [if_pos a3]
      rw [if_neg a3, if_neg (fun c => b1 ⟨by omega, c⟩), if_pos (by omega)]
    have e7 : bs.getD 7 0 = 0 := by rw [List.getD, List.getElem?_eq_none (by omega)]; rfl
    obtain ⟨m, H', z, q1, q2, q3⟩ := l4 (low := H.next) (R0 := H.next) (N0 := H1.next) (r := X3.next) (X := H6.next) (l := []) hb (fun b h => h) r13 gR13 gN13 g13 (Nat.le_refl _) (by omega) (by omega) (by omega) (by omega) ⟨rfl, .inl ⟨rfl, rfl, rfl⟩⟩ (fun b hb' => absurd hb' In1.none) (by simp)
    have ef : finE bs (8 + 4) = 2 := by unfold finE; rw [if_pos (by omega)]
    rw [ef] at z q2
    rw [if_neg (by decide)] at q2
    rw [ed]
    refine ⟨m, H', go2 _ ?_, q1, q2, kk13.trans q3⟩
    refine L2_step ?_
    rw [if_neg (by simp), e7]
    refine L3_step ?_
    rw [if_neg (by omega)]
    exact z
end F17
namespace F13
theorem l0 {GH : Heap} {a c : Option Addr} {n k cn ck : Nat} {ps : List Int} {x cut : Int} (hp : Ints .i64 GH c cn ck ps) (hx : 0 ≤ x ∧ x < 256) (hn0 : 0 < n) (hn : n ≤ 1000000) (hcn : cn ≤ 140737488355328) : ∀ (rest : List Int) (j : Nat) (xs : List Int) (H : Heap), ps.drop j = rest → j + rest.length = cn → Keep GH.next GH H → OwnI .u8 GH.next H a n k xs → IsB xs →
    ∃ (zs : List Int) (a' : Option Addr) (n' k' : Nat) (H' : Heap), L0 a n k x cut (n : Int) c cn ck (cn : Int) (j : Int) H (.slice a' n' k', H') ∧ By H' a' n' k' zs ∧ IsB zs ∧ n' ≤ n ∧ Keep GH.next H H' := by
  have hun : IntKind.wrap .u64 (n : Int) = (n : Int) := u64 (by omega) (by omega)
  intro rest
  induction rest with
  | nil =>
    intro j xs H hd hj hk ho hb
    simp only [List.length_nil] at hj
    have hl := ho.ln
    obtain ⟨q, eq, hq⟩ := modN cut n (by omega) (by omega)
    obtain ⟨a', k', p', o'⟩ := Ints.part (show Ints .u8 H a n k xs from ho.sl) none (some ((n - q : Nat) : Int)) 0 (n - q) (.inl ⟨rfl, rfl⟩) (.inr rfl) (by omega) (by omega)
    simp only [Nat.sub_zero, List.drop_zero] at p' o'
    refine ⟨_, a', n - q, k', H, L0_step ?_, o', fun y hy => hb y (List.mem_of_mem_take hy), by omega, Keep.refl _ _⟩
    rw [if_neg (by omega), hun, eq, i64 (by omega) (by omega), show ((n : Int) - (q : Int)) = ((n - q : Nat) : Int) by omega]
    exact ⟨by omega, _, _, _, p', rfl⟩
  | cons q rest ih =>
    intro j xs H hd hj hk ho hb
    simp only [List.length_cons] at hj
    have hl := ho.ln
    have hx' := drop_get hd
    have sp := hp.keep hk
    obtain ⟨b, o, rfl⟩ := hp.at (by omega)
    by_cases h3 : (j : Int) < 3
    · obtain ⟨e, em, hm⟩ := modN q (n : Int) (by omega) (by omega)
      obtain ⟨b1, o1, rfl⟩ := ho.sl.at (by omega)
      have hg : xs[e]? = some (xs.getD e 0) := getD_some (by omega)
      have ld := Ints.get ho.sl hg
      obtain ⟨H1, c1, o2, g1, n1⟩ := OwnI.putc' ho (i := e) (by omega) (ixor .u8 (xs.getD e 0) x)
      obtain ⟨zs, a', n', k', H', z, q1, q2, q3, q4⟩ := ih (j + 1) _ H1 (drop_next hd) (by omega) (hk.trans g1) o2 (isB_set hb (xor8_b (hb.get hg) hx))
      refine ⟨zs, a', n', k', H', L0_step ?_, q1, q2, q3, g1.trans q4⟩
      rw [if_pos (by omega)]
      refine ⟨b, o, rfl, by omega, by omega, q, Ints.get sp hx', ?_⟩
      rw [if_pos h3, hun, em]
      refine ⟨by omega, b1, o1, rfl, by omega, by omega, _, ld, by omega, by omega, H1, c1, ?_⟩
      rw [i64 (by omega) (by omega)]
      exact_mod_cast z
    · obtain ⟨zs, a', n', k', H', z, q1, q2, q3, q4⟩ := ih (j + 1) xs H (drop_next hd) (by omega) hk ho hb
      refine ⟨zs, a', n', k', H', L0_step ?_, q1, q2, q3, q4⟩
      rw [if_pos (by omega)]
      refine ⟨b, o, rfl, by omega, by omega, q, Ints.get sp hx', ?_⟩
      rw [if_neg h3, i64 (by omega) (by omega)]
      exact_mod_cast z
theorem ok {H : Heap} {c a : Option Addr} {cn ck n k : Nat} {ps bs : List Int} {x cut : Int} (hp : Ints .i64 H c cn ck ps) (ha : By H a n k bs) (hb : IsB bs) (hx : 0 ≤ x ∧ x < 256) (hn : n ≤ 1000000) (hcn : cn ≤ 140737488355328) :
    ∃ (zs : List Int) (a' : Option Addr) (n' k' : Nat) (H' : Heap), Cc 13 [.slice a n k, .slice c cn ck, .int .u8 x, .int .i64 cut] H = some (.slice a' n' k', H') ∧ By H' a' n' k' zs ∧ IsB zs ∧ n' ≤ n ∧ Keep H.next H H' := by
  obtain ⟨H1, e1, n1, g1, k1⟩ := one H []
  have o1 : OwnI .u8 H.next H1 (some ⟨H.next, 0, none⟩) 0 (UNK 1) [] := by rw [e1]; exact OwnI.new H []
  obtain ⟨a2, k2, H2, c2, o2, kp2⟩ := OwnI.app 1 o1 (ha.keep k1) (by omega) (by omega) (by omega)
  simp only [Nat.zero_add, List.nil_append] at c2 o2
  have k02 := k1.trans kp2
  by_cases h0 : 0 < n
  · obtain ⟨zs, a', n', k', H', z, q1, q2, q3, q4⟩ := l0 (cut := cut) hp hx h0 hn hcn ps 0 bs H2 rfl (by have := hp.ln; omega) k02 o2 hb
    refine ⟨zs, a', n', k', H', call ⟨_, e1, _, _, _, _, c2, ?_⟩, q1, q2, q3, k02.trans q4⟩
    rw [if_pos (by omega)]
    exact z
  · refine ⟨bs, a2, n, k2, H2, call ⟨_, e1, _, _, _, _, c2, ?_⟩, o2.sl, hb, Nat.le_refl _, k02⟩
    rw [if_neg (by omega)]
end F13
def U32 (x : Int) : Prop := 0 ≤ x ∧ x < 4294967296
theorem nb32 (b : BitVec 32) : U32 (nb b) := ⟨Int.natCast_nonneg _, by have := b.isLt; show ((b.toNat : Nat) : Int) < 4294967296; omega⟩
theorem u32_wf {x : Int} (h : (Lit.int .u32 x).wf = true) : U32 x := by
  have h2 : (decide (IntKind.min .u32 ≤ x) && decide (x ≤ IntKind.max .u32)) = true := h
  rw [Bool.and_eq_true, decide_eq_true_eq, decide_eq_true_eq] at h2
  have e1 : IntKind.min .u32 = 0 := rfl
  have e2 : IntKind.max .u32 = 4294967295 := rfl
  rw [e1, e2] at h2
  unfold U32; omega
theorem stV_at {bs us : List Int} {j : Nat} {x : Int} (h : bs.drop j = beB x 4 ++ us) (hx : U32 x) : stV bs j 4 = x := by
  have hl := congrArg List.length h
  rw [List.length_drop, List.length_append, beB_len] at hl
  unfold stV
  rw [if_pos (by omega), h, List.take_left' (beB_len x 4), beV_beB (by omega) hx.1 (by have := hx.2; show x < 2 ^ 32; omega)]
theorem getD_drop {bs us : List Int} {j : Nat} {x : Int} (h : bs.drop j = x :: us) : bs.getD j 0 = x := by rw [List.getD, drop_get h]; rfl
theorem drop_more {bs us vs : List Int} {j n : Nat} (h : bs.drop j = us ++ vs) (hn : us.length = n) : bs.drop (j + n) = vs := by
  rw [← List.drop_drop, h, List.drop_left' hn]
theorem seR (key : Int) (v : RQ) : sealed key (encR v) = 74 :: v.n :: v.p :: (beB v.a 4 ++ (beB v.c 4 ++ (beB (nb (tagB key (encR v))) 4 ++ []))) := by
  unfold sealed
  conv => lhs; lhs; unfold encR
  simp
theorem decR_ask (key : Int) {v : RQ} (h : mayR v) (ha : U32 v.a) (hc : U32 v.c) : decR (sealed key (encR v)) = (⟨v.n, v.p, v.a, v.c, nb (tagB key (encR v))⟩, 0) := by
  have e := seR key v
  have hl : (sealed key (encR v)).length = 15 := by rw [sealed_len, encR_len]
  generalize hbs : sealed key (encR v) = bs at *
  have d0 : bs.drop 0 = 74 :: v.n :: v.p :: (beB v.a 4 ++ (beB v.c 4 ++ (beB (nb (tagB key (encR v))) 4 ++ []))) := by rw [List.drop_zero]; exact e
  have d1 : bs.drop 1 = v.n :: v.p :: (beB v.a 4 ++ (beB v.c 4 ++ (beB (nb (tagB key (encR v))) 4 ++ []))) := drop_next d0
  have d2 : bs.drop 2 = v.p :: (beB v.a 4 ++ (beB v.c 4 ++ (beB (nb (tagB key (encR v))) 4 ++ []))) := drop_next d1
  have d3 : bs.drop 3 = beB v.a 4 ++ (beB v.c 4 ++ (beB (nb (tagB key (encR v))) 4 ++ [])) := drop_next d2
  have d7 : bs.drop 7 = beB v.c 4 ++ (beB (nb (tagB key (encR v))) 4 ++ []) := drop_more d3 (beB_len _ _)
  have d11 : bs.drop 11 = beB (nb (tagB key (encR v))) 4 ++ [] := drop_more d7 (beB_len _ _)
  unfold decR
  rw [getD_drop d0, getD_drop d1, getD_drop d2, stV_at d3 ha, stV_at d7 hc, stV_at d11 (nb32 _), if_neg (by omega), if_neg (fun c => c rfl), if_neg (by omega), if_neg (fun c => c h.1), if_neg (by omega), if_neg (fun c => c ⟨h.2.1, Ne.symm h.2.2⟩), if_neg (by omega), if_neg (by omega)]
theorem decCs_enc {bs : List Int} : ∀ (l : List C5) (j : Nat) (acc : List C5) (us : List Int), (∀ c ∈ l, mayC c) → bs.drop j = l.flatMap cellB ++ us → decCs bs l.length j acc = (0, acc ++ l)
  | [], j, acc, us, _, _ => by simp [decCs]
  | c :: l, j, acc, us, hm, hd => by
    rw [List.flatMap_cons, List.append_assoc] at hd
    have hl := congrArg List.length hd
    rw [List.length_drop, List.length_append, List.length_append] at hl
    have h5 : (cellB c).length = 5 := rfl
    have d0 : bs.drop j = c.f :: c.s :: c.c :: c.o :: c.p :: (l.flatMap cellB ++ us) := hd
    have d1 := drop_next d0
    have d2 := drop_next d1
    have d3 := drop_next d2
    have d4 := drop_next d3
    have ec : cellAt bs j = c := by
      unfold cellAt
      rw [getD_drop d0, getD_drop d1, getD_drop d2, getD_drop d3, getD_drop d4]
    show decCs bs (l.length + 1) j acc = _
    unfold decCs
    rw [if_neg (by omega), ec, if_pos (hm c (List.mem_cons_self ..)), decCs_enc l (j + 5) (acc ++ [c]) us (fun x hx => hm x (List.mem_cons_of_mem _ hx)) (drop_more hd h5)]
    simp
theorem seG (key : Int) (v : GV) : sealed key (encG v) = 71 :: v.n :: v.d :: (beB v.a 4 ++ ((v.l.length : Int) :: (v.l.flatMap cellB ++ (beB (nb (tagB key (encG v))) 4 ++ [])))) := by
  unfold sealed
  conv => lhs; lhs; unfold encG
  simp
theorem decG_give (key : Int) {v : GV} (h : mayG v) (ha : U32 v.a) : decG (sealed key (encG v)) = (⟨v.n, v.d, v.a, v.l, nb (tagB key (encG v))⟩, 0) := by
  have e := seG key v
  have hl : (sealed key (encG v)).length = 8 + 5 * v.l.length + 4 := by rw [sealed_len, encG_len]
  generalize hbs : sealed key (encG v) = bs at *
  have d0 : bs.drop 0 = 71 :: v.n :: v.d :: (beB v.a 4 ++ ((v.l.length : Int) :: (v.l.flatMap cellB ++ (beB (nb (tagB key (encG v))) 4 ++ [])))) := by rw [List.drop_zero]; exact e
  have d1 := drop_next d0
  have d2 := drop_next d1
  have d3 : bs.drop 3 = beB v.a 4 ++ ((v.l.length : Int) :: (v.l.flatMap cellB ++ (beB (nb (tagB key (encG v))) 4 ++ []))) := drop_next d2
  have d7 : bs.drop 7 = (v.l.length : Int) :: (v.l.flatMap cellB ++ (beB (nb (tagB key (encG v))) 4 ++ [])) := drop_more d3 (beB_len _ _)
  have d8 : bs.drop 8 = v.l.flatMap cellB ++ (beB (nb (tagB key (encG v))) 4 ++ []) := drop_next d7
  have dt : bs.drop (8 + 5 * v.l.length) = beB (nb (tagB key (encG v))) 4 ++ [] := drop_more d8 (cellB_len _)
  have h8 := h.2.2.1
  have hc := decCs_enc v.l 8 [] _ h.2.2.2 d8
  rw [List.nil_append] at hc
  unfold decG
  rw [getD_drop d0, getD_drop d1, getD_drop d2, stV_at d3 ha, getD_drop d7, Int.toNat_natCast, hc, if_neg (by omega), if_neg (fun c => c rfl), if_neg (by omega), if_neg (fun c => c h.1), if_neg (by omega), if_neg (by omega)]
  unfold endG
  have hf : finE bs (8 + 5 * v.l.length + 4) = 0 := by unfold finE; rw [if_neg (by omega), if_neg (by omega)]
  rw [if_neg (fun c => c rfl), hf, if_neg (fun c => c rfl), stV_at dt (nb32 _)]
/-- A request that is read is of fifteen bytes. -/
theorem decR_ok {bs : List Int} (h : (decR bs).2 = 0) : bs.length = 15 ∧ (decR bs).1.n = bs.getD 1 0 ∧ inP (bs.getD 1 0) 0 15 ∧ (decR bs).1.t = stV bs 11 4 ∧ (decR bs).1.c = stV bs 7 4 ∧ (decR bs).1.a = stV bs 3 4 := by
  unfold decR at h ⊢
  split
  · rename_i c; rw [if_pos c] at h; exact absurd h (show ¬(2 : Int) = 0 by decide)
  rename_i c; rw [if_neg c] at h
  split
  · rename_i c; rw [if_pos c] at h; exact absurd h (show ¬(3 : Int) = 0 by decide)
  rename_i c; rw [if_neg c] at h
  split
  · rename_i c; rw [if_pos c] at h; exact absurd h (show ¬(2 : Int) = 0 by decide)
  rename_i c; rw [if_neg c] at h
  split
  · rename_i c; rw [if_pos c] at h; exact absurd h (show ¬(3 : Int) = 0 by decide)
  rename_i c1; rw [if_neg c1] at h
  split
  · rename_i c; rw [if_pos c] at h; exact absurd h (show ¬(2 : Int) = 0 by decide)
  rename_i c; rw [if_neg c] at h
  split
  · rename_i c; rw [if_pos c] at h; exact absurd h (show ¬(3 : Int) = 0 by decide)
  rename_i c; rw [if_neg c] at h
  split
  · rename_i c; rw [if_pos c] at h; exact absurd h (show ¬(2 : Int) = 0 by decide)
  rename_i c; rw [if_neg c] at h
  split
  · rename_i c; rw [if_pos c] at h; exact absurd h (show ¬(3 : Int) = 0 by decide)
  exact ⟨by omega, rfl, Classical.not_not.1 c1, rfl, rfl, rfl⟩
theorem finE_0 {bs : List Int} {j : Nat} (h : finE bs j = 0) : bs.length = j := by
  unfold finE at h
  by_cases c : bs.length < j
  · rw [if_pos c] at h; exact absurd h (by decide)
  · rw [if_neg c] at h
    by_cases d : j < bs.length
    · rw [if_pos d] at h; exact absurd h (by decide)
    · omega
theorem decG_ok {bs : List Int} (h : (decG bs).2 = 0) : 12 ≤ bs.length ∧ (decG bs).1.t = stV bs (bs.length - 4) 4 := by
  unfold decG at h ⊢
  split
  · rename_i c; rw [if_pos c] at h; exact absurd h (show ¬(2 : Int) = 0 by decide)
  rename_i c; rw [if_neg c] at h
  split
  · rename_i c; rw [if_pos c] at h; exact absurd h (show ¬(3 : Int) = 0 by decide)
  rename_i c; rw [if_neg c] at h
  split
  · rename_i c; rw [if_pos c] at h; exact absurd h (show ¬(2 : Int) = 0 by decide)
  rename_i c; rw [if_neg c] at h
  split
  · rename_i c; rw [if_pos c] at h; exact absurd h (show ¬(3 : Int) = 0 by decide)
  rename_i c1; rw [if_neg c1] at h
  split
  · rename_i c; rw [if_pos c] at h; exact absurd h (show ¬(2 : Int) = 0 by decide)
  rename_i c; rw [if_neg c] at h
  split
  · rename_i c; rw [if_pos c] at h; exact absurd h (show ¬(3 : Int) = 0 by decide)
  rename_i c; rw [if_neg c] at h
  unfold endG at h ⊢
  split
  · rename_i c; rw [if_pos c] at h; exact absurd h c
  rename_i c; rw [if_neg c] at h
  split
  · rename_i c; rw [if_pos c] at h; exact absurd h c
  rename_i c
  have hf := finE_0 (Classical.not_not.1 c)
  exact ⟨by omega, by show stV bs _ 4 = _; rw [hf, Nat.add_sub_cancel]⟩
/-- What is bent has a sum that is not right. -/
theorem bent_wrong (key : Int) {xs : List Int} (hx : IsB xs) {p : Nat} {y : Int} (hp : p < (sealed key xs).length) (hy : 0 ≤ y ∧ y < 256) (h0 : y ≠ 0) :
    nb (tagB key (((sealed key xs).set p (ixor .u8 ((sealed key xs).getD p 0) y)).take xs.length)) ≠ stV ((sealed key xs).set p (ixor .u8 ((sealed key xs).getD p 0) y)) xs.length 4 := by
  have hl : (sealed key xs).length = xs.length + 4 := sealed_len key xs
  have hb := sealed_isB (key := key) hx
  have hT := beB_len (nb (tagB key xs)) 4
  have hTB := beB_isB (nb (tagB key xs)) 4
  unfold stV
  rw [List.length_set, if_pos (by omega)]
  by_cases hlt : p < xs.length
  · have e1 : ((sealed key xs).set p (ixor .u8 ((sealed key xs).getD p 0) y)).take xs.length = xs.set p (ixor .u8 xs[p] y) := by
      rw [List.take_set]
      have : (sealed key xs).take xs.length = xs := by unfold sealed; rw [List.take_left]
      rw [this]
      congr 2
      unfold sealed
      rw [List.getD, List.getElem?_append_left hlt, List.getElem?_eq_getElem hlt]; rfl
    have e2 : ((sealed key xs).set p (ixor .u8 ((sealed key xs).getD p 0) y)).drop xs.length = beB (nb (tagB key xs)) 4 := by
      rw [List.drop_set_of_lt hlt]
      unfold sealed; rw [List.drop_left]
    rw [e1, e2, List.take_of_length_le (by omega), beV_beB (by omega) (nb32 _).1 (by have := (nb32 (tagB key xs)).2; show _ < 2 ^ 32; omega)]
    have := tag_set key hlt hx hy
    intro c
    rw [c, beq_self_eq_true] at this
    exact h0 (eq_of_beq this.symm)
  · obtain ⟨q, rfl⟩ : ∃ q, p = xs.length + q := ⟨p - xs.length, by omega⟩
    have e1 : ((sealed key xs).set (xs.length + q) (ixor .u8 ((sealed key xs).getD (xs.length + q) 0) y)).take xs.length = xs := by
      rw [List.take_set_of_le (by omega)]
      unfold sealed; rw [List.take_left]
    have hq : q < 4 := by omega
    have eg : (sealed key xs).getD (xs.length + q) 0 = (beB (nb (tagB key xs)) 4).getD q 0 := by
      unfold sealed
      rw [List.getD, List.getElem?_append_right (by omega), Nat.add_sub_cancel_left, List.getD]
    have e2 : ((sealed key xs).set (xs.length + q) (ixor .u8 ((sealed key xs).getD (xs.length + q) 0) y)).drop xs.length = (beB (nb (tagB key xs)) 4).set q (ixor .u8 ((beB (nb (tagB key xs)) 4).getD q 0) y) := by
      rw [List.drop_set, if_neg (by omega), Nat.add_sub_cancel_left, eg]
      congr 1
      unfold sealed; rw [List.drop_left]
    rw [e1, e2, List.take_of_length_le (by simp; omega)]
    intro c
    have hg := hTB.get (i := q) (x := (beB (nb (tagB key xs)) 4).getD q 0) (getD_some (by omega))
    have hz := xor8_b hg hy
    have hB := isB_set (i := q) hTB hz
    have h1 := congrArg (fun z => beB z 4) c
    rw [beB_beV (by simp; omega) (by omega) hB] at h1
    have h2 := congrArg (·[q]?) h1
    rw [List.getElem?_set_self (by omega), getD_some (xs := beB (nb (tagB key xs)) 4) (by omega)] at h2
    have h3 : (beB (nb (tagB key xs)) 4).getD q 0 = ixor .u8 ((beB (nb (tagB key xs)) 4).getD q 0) y := Option.some.inj h2
    have h4 := sealB_xor (s := 0#32) (t := 0#32) hg hy (by rw [← h3])
    exact h0 h4
end Go.X
