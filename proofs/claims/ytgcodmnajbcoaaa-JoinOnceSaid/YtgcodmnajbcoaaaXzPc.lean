/- Who grants, who asks. -/
import Derived.Test.YtgcodmnajbcoaaaXzPb
set_option linter.unusedVariables false
set_option linter.unusedSimpArgs false
set_option maxRecDepth 20000
namespace Go.X
open Go Go.RowKit Go.Proofs
/-- Who grants: keys, counts. -/
structure DK (H : Heap) (D : Nat) (ka : Option Addr) (kk : Nat) (ca : Option Addr) (ck : Nat) (keys counts : List Int) : Prop where
  row : H.get D = .row [.slice ka keys.length kk, .slice ca keys.length ck] true
  lt : D < H.next
  ks : Ints .u64 H ka keys.length kk keys
  cs : OwnI .u32 0 H ca keys.length ck counts
  apk : ¬In1 ka D
  apc : ¬In1 ca D
  ap : ∀ b, In1 ca b → ¬In1 ka b
  n : keys.length ≤ 16
section
variable {H H' : Heap} {D : Nat} {ka ca : Option Addr} {kk ck : Nat} {keys counts : List Int} {S : Nat → Prop}
theorem DK.chg (h : DK H D ka kk ca ck keys counts) (c : Chg S H H') (h1 : ¬S D) (h2 : ∀ b, In1 ka b → ¬S b) (h3 : ∀ b, In1 ca b → ¬S b) : DK H' D ka kk ca ck keys counts :=
  ⟨by rw [c.get D h.lt h1]; exact h.row, Nat.lt_of_lt_of_le h.lt c.next, h.ks.chg c h2, h.cs.chg c h3, h.apk, h.apc, h.ap, h.n⟩
theorem DK.new (h : DK H D ka kk ca ck keys counts) (k : Keep H.next H H') : DK H' D ka kk ca ck keys counts := h.chg (k.chg0 (S := fun _ => False)) (fun h => h) (fun _ _ h => h) fun _ _ h => h
theorem DK.set {b : Nat} {o : AObj} (h : DK H D ka kk ca ck keys counts) (hb : b ≠ D) (hk : ¬In1 ka b) (hc : ¬In1 ca b) : DK (H.set b o) D ka kk ca ck keys counts :=
  h.chg (chgSet' o) (fun hh => hb (show D = b from hh).symm) (fun c hc' hh => hk ((show c = b from hh) ▸ hc')) fun c hc' hh => hc ((show c = b from hh) ▸ hc')
theorem DK.kl (h : DK H D ka kk ca ck keys counts) : ∀ b, In1 ka b → b < H.next := fun b hb => Sl.lt h.ks hb
theorem DK.cl (h : DK H D ka kk ca ck keys counts) : ∀ b, In1 ca b → b < H.next := fun b hb => (h.cs.lt hb).2
end
/-- What a desk makes of bytes. -/
def takeV (keys counts bs : List Int) (l : List C5) : (GV × Int) × List Int :=
  let r := (decR bs).1
  if (decR bs).2 ≠ 0 then ((gv0, (decR bs).2), counts)
  else if r.n ≥ (keys.length : Int) then ((gv0, 6), counts)
  else
    let key := keys.getD r.n.toNat 0
    if nb (tagB key (bs.take (bs.length - 4))) ≠ r.t then ((gv0, 10), counts)
    else if r.c ≤ counts.getD r.n.toNat 0 then ((gv0, 8), counts)
    else
      let g : GV := if cellsP l then ⟨r.n, 0, r.a, l, 0⟩ else ⟨r.n, 1, r.a, [], 0⟩
      (({ g with t := nb (tagB key (encG g)) }, 0), counts.set r.n.toNat r.c)
namespace F41
theorem ok {H : Heap} {a : Option Addr} {n k : Nat} {xs : List Int} (hs : Ints .u64 H a n k xs) (hn : n ≤ 1000) (h0 : 0 < n) : ∃ a' k' H', Cc 41 [.slice a n k] H = some (.slice a' n k', H') ∧ OwnI .u64 H.next H' a' n k' xs ∧ Keep H.next H H' := by
  obtain ⟨b, o, rfl⟩ := hs.at h0
  obtain ⟨H1, e1, n1, g1, k1⟩ := one H []
  have o1 : OwnI .u64 H.next H1 (some ⟨H.next, 0, none⟩) 0 (UNK 1) [] := by rw [e1]; exact OwnI.new H []
  obtain ⟨a2, k2, H2, c2, o2, kp2⟩ := OwnI.app 8 o1 (hs.keep k1) (by omega) (by omega) (by omega)
  simp only [Nat.zero_add, List.nil_append] at c2 o2
  refine ⟨a2, k2, H2, call ?_, o2, k1.trans kp2⟩
  rw [if_neg (by simp)]
  exact ⟨_, e1, _, _, _, _, c2, rfl⟩
end F41
namespace F43
theorem ok (key t : Int) {H : Heap} {a : Option Addr} {n k : Nat} {xs : List Int} (hs : By H a n k xs) (hn : n ≤ 1000000) (h4 : 4 ≤ n) : ∃ H', Cc 43 [.int .u64 key, .slice a n k, .int .u32 t] H = some (.bool (decide (nb (tagB key (xs.take (xs.length - 4))) = t)), H') ∧ Keep H.next H H' := by
  have hl := hs.ln
  obtain ⟨a', k', p', s'⟩ := Ints.part hs none (some ((n - 4 : Nat) : Int)) 0 (n - 4) (.inl ⟨rfl, rfl⟩) (.inr rfl) (by omega) (by omega)
  simp only [Nat.sub_zero, List.drop_zero] at p' s'
  obtain ⟨H', c, k''⟩ := F56.ok key t s' (by omega)
  refine ⟨H', call ⟨_, _, _, ?_, _, _, c, ?_⟩, k''⟩
  · rw [i64 (by omega) (by omega), show (n : Int) - 4 = ((n - 4 : Nat) : Int) by omega]
    exact p'
  · rw [beq_dec, hl]
end F43
namespace F19
theorem ok {H : Heap} {a : Option Addr} {n k : Nat} {keys : List Int} (hs : Ints .u64 H a n k keys) (h0 : 0 < n) (h16 : n ≤ 16) : ∃ (D : Nat) (ka ca : Option Addr) (kk ck : Nat) (H' : Heap), Cc 19 [.slice a n k] H = some (.pointer (some ⟨D, 0, none⟩), H') ∧ DK H' D ka kk ca ck keys (List.replicate n 0) ∧ H.next ≤ D ∧ (∀ b, In1 ka b → H.next ≤ b) ∧ (∀ b, In1 ca b → H.next ≤ b) ∧ Keep H.next H H' := by
  have hl := hs.ln
  obtain ⟨a1, k1, p1, s1⟩ := Ints.part hs none (some (n : Int)) 0 n (.inl ⟨rfl, rfl⟩) (.inr rfl) (by omega) (Nat.le_refl _)
  simp only [Nat.sub_zero, List.drop_zero] at p1 s1
  rw [List.take_of_length_le (by omega)] at s1
  generalize hR : reserve H 8 = R at *
  have kR : Keep H.next H R := by rw [← hR]; exact Keep.reserve H 8
  have nR : R.next = H.next + 8 := by rw [← hR, next_reserve]
  obtain ⟨a2, k2, H2, c2, o2, p2⟩ := F41.ok (s1.keep kR) (by omega) h0
  have n2 := p2.next
  let Y := H2.set (H.next + 4) (.row (zerosL [.int .u32 0] n) true)
  have gY : Y.get (H.next + 4) = .row (List.replicate n (.int .u32 0)) true := by simp [Y, zerosL1]
  have nY : Y.next = H2.next := rfl
  obtain ⟨H3, e3, n3, g3, k3⟩ := one Y [.slice a2 n k2, .slice (some ⟨H.next + 4, 0, none⟩) n (UNK 1)]
  have g3' : H3.get (H.next + 4) = .row (List.replicate n (.int .u32 0)) true := by rw [k3.get _ (by omega)]; exact gY
  have kY : Keep H.next H2 Y := Keep.set _ (by omega)
  have oY : OwnI .u64 R.next Y a2 n k2 keys := o2.chg (chgSet' _) fun b hb hh => by have := (o2.lt hb).1; have hh : b = H.next + 4 := hh; omega
  have o3 := oY.keep k3
  have er : (List.replicate n (0 : Int)).map (Value.int .u32) = List.replicate n (.int .u32 0) := by simp
  refine ⟨Y.next, a2, some ⟨H.next + 4, 0, none⟩, k2, UNK 1, H3, call ⟨a1, n, k1, ?_, a2, n, k2, H2, ?_, n, pmk_eq (by omega) (by omega), H3, e3, rfl⟩, ⟨by rw [hl]; exact g3, by omega, by rw [hl]; exact o3.sl, ?_, fun hh => by have := (oY.lt hh).2; omega, fun hh => by have := In1.eq.1 hh; omega, fun b hb hh => by have := In1.eq.1 hb; have := (o3.lt hh).1; omega, by omega⟩, by omega, fun b hb => by have := (o3.lt hb).1; omega, fun b hb => by have := In1.eq.1 hb; omega, ((kR.trans (p2.weak (by omega))).trans kY).trans (k3.weak (by omega))⟩
  · rw [show imin (n : Int) 16 = (n : Int) by unfold imin; split <;> omega]
    exact p1
  · rw [hR]; exact c2
  · refine ⟨by simp [hl], .inr ⟨H.next + 4, 0, List.replicate n (.int .u32 0), rfl, rfl, Nat.zero_le _, by omega, g3', by simp [hl], ?_⟩⟩
    rw [er]; simp [hl]
end F19
theorem noneG {H : Heap} {R0 low : Nat} (gR : H.get R0 = .row gr0.cells true) (hl : low ≤ R0) : ∃ Y, stc H R0 0 gr0.cells = some Y ∧ ldAll Y R0 0 gr0.cells ∧ Keep low H Y ∧ Y = H.set R0 (.row gr0.cells true) :=
  ⟨_, rstAll gR rfl, rldAll (vs := gr0.cells) (own := true) (by simp), Keep.set _ hl, rfl⟩
theorem u32V (bs : List Int) (j : Nat) : U32 (stV bs j 4) := by
  have := stV_range bs j (w := 4) (by omega)
  exact ⟨this.1, by have := this.2; show stV bs j 4 < 4294967296; omega⟩
namespace F22
variable {D : Nat} {ka ca : Option Addr} {kk ck : Nat} {keys counts : List Int}
/-- The grant that is given. -/
def given (r : RQ) (l : List C5) : GV := if cellsP l then ⟨r.n, 0, r.a, l, 0⟩ else ⟨r.n, 1, r.a, [], 0⟩
theorem given_may {r : RQ} {l : List C5} (h : inP r.n 0 15) : mayG (given r l) := by
  unfold given
  by_cases c : cellsP l
  · rw [if_pos c]; exact ⟨h, ⟨show (0 : Int) ≤ 0 by decide, show (0 : Int) ≤ 255 by decide⟩, c⟩
  · rw [if_neg c]; exact ⟨h, ⟨show (0 : Int) ≤ 1 by decide, show (1 : Int) ≤ 255 by decide⟩, by show cellsP []; exact ⟨by simp, fun c hc => by cases hc⟩⟩
theorem given_n (r : RQ) (l : List C5) : (given r l).n = r.n ∧ (given r l).a = r.a := by unfold given; split <;> exact ⟨rfl, rfl⟩
theorem takeV_eq (keys counts bs : List Int) (l : List C5) : takeV keys counts bs l =
    if (decR bs).2 ≠ 0 then ((gv0, (decR bs).2), counts) else if (decR bs).1.n ≥ (keys.length : Int) then ((gv0, 6), counts)
    else if nb (tagB (keys.getD (decR bs).1.n.toNat 0) (bs.take (bs.length - 4))) ≠ (decR bs).1.t then ((gv0, 10), counts)
    else if (decR bs).1.c ≤ counts.getD (decR bs).1.n.toNat 0 then ((gv0, 8), counts)
    else (({ given (decR bs).1 l with t := nb (tagB (keys.getD (decR bs).1.n.toNat 0) (encG (given (decR bs).1 l))) }, 0), counts.set (decR bs).1.n.toNat (decR bs).1.c) := rfl
theorem ok {H : Heap} {a a2 : Option Addr} {n k n2 k2 : Nat} {bs : List Int} {l : List C5} (hd : DK H D ka kk ca ck keys counts) (hs : By H a n k bs) (hb : IsB bs) (hn : n ≤ 1000) (hc : Cells H a2 n2 k2 l) (hn2 : n2 ≤ 1000000000) (hap2 : ∀ b, In1 a2 b → ¬In1 ca b) :
    ∃ (g : Gr) (H' : Heap), Cc 22 [.pointer (some ⟨D, 0, none⟩), .slice a n k, .slice a2 n2 k2] H = some (.tuple #[g.agg, .int .i64 (takeV keys counts bs l).1.2], H') ∧ GrOk H' g ∧ g.v = (takeV keys counts bs l).1.1 ∧ (∀ b, In1 g.sa b → H.next ≤ b) ∧ DK H' D ka kk ca ck keys (takeV keys counts bs l).2 ∧ Chg (In1 ca) H H' := by
  obtain ⟨H1, e1, n1, g1, k1⟩ := one H gr0.cells
  obtain ⟨H3, c3, k3⟩ := F14.ok (hs.keep k1) hb (by omega)
  have n3 := k3.next
  obtain ⟨H5, s5, g5, k5, n5⟩ := fill H3 rq0.cells (decR bs).1.cells rfl
  have k35 := k3.th k5
  have k05 : Keep H.next H H5 := k1.trans (k35.weak (by omega))
  have gR5 : H5.get H.next = .row gr0.cells true := by rw [k35.get _ (by omega)]; exact g1
  have d5 := hd.new k05
  have hDl := hd.lt
  have hs5 := hs.keep k05
  have hl := hs.ln
  have none_ : ∀ {Y : Heap}, Y.get H.next = .row gr0.cells true → Chg (In1 ca) H Y → DK Y D ka kk ca ck keys counts → ∃ Z, stc Y H.next 0 gr0.cells = some Z ∧ ldAll Z H.next 0 gr0.cells ∧ DK Z D ka kk ca ck keys counts ∧ Chg (In1 ca) H Z := by
    intro Y gY cY dY
    obtain ⟨Z, z1, z2, z3, z4⟩ := noneG (low := H.next) gY (Nat.le_refl _)
    refine ⟨Z, z1, z2, ?_, cY.trans (T := fun b => b = H.next) (by rw [z4]; exact chgSet' _) fun b hb hh => by have hh : b = H.next := hh; omega⟩
    rw [z4]
    exact dY.set (by omega) (fun hh => by have := hd.kl _ hh; omega) (fun hh => by have := hd.cl _ hh; omega)
  rw [takeV_eq]
  by_cases h0 : (decR bs).2 ≠ 0
  · rw [if_pos h0]
    obtain ⟨Z, z1, z2, z3, z4⟩ := none_ gR5 (k05.chg0 (S := In1 ca)) d5
    refine ⟨gr0, Z, call ⟨_, e1, ?_⟩, gr0_ok _, rfl, fun b hb => absurd hb In1.none, z3, z4⟩
    rw [if_neg (by simp)]
    refine ⟨_, _, _, _, _, _, _, c3, _, rfl, H5, s5, ?_⟩
    rw [if_neg h0]
    exact ⟨Z, z1, _, _, _, _, _, _, _, z2, rfl⟩
  rw [if_neg h0]
  replace h0 := Classical.not_not.1 h0
  obtain ⟨q1, q2, q3, q4, q5, q6⟩ := decR_ok h0
  generalize hr : (decR bs).1 = r at *
  rw [← q2] at q3
  obtain ⟨N, hN⟩ : ∃ N : Nat, r.n = (N : Int) := ⟨r.n.toNat, by have := q3.1; omega⟩
  have go1 : ∀ rv, (if r.n ≥ (keys.length : Int) then
      (∃ (H_6 : Heap), stc H5 H.next 0 gr0.cells = some H_6 ∧
      (∃ (r6c0_1 : Int) (r6c1_1 : Int) (r6c2_1 : Int) (r6c3a_1 : Option Addr) (r6c3n_1 : Nat) (r6c3k_1 : Nat) (r6c4_1 : Int), ldAll H_6 H.next 0 [.int .i64 r6c0_1, .int .i64 r6c1_1, .int .u32 r6c2_1, .slice r6c3a_1 r6c3n_1 r6c3k_1, .int .u32 r6c4_1] ∧
      (rv = (.tuple #[.agg #[.int .i64 r6c0_1, .int .i64 r6c1_1, .int .u32 r6c2_1, .slice r6c3a_1 r6c3n_1 r6c3k_1, .int .u32 r6c4_1], .int .i64 6], H_6))))
      else (∃ H7, Cc 43 [.int .u64 (keys.getD N 0), .slice a n k, .int .u32 r.t] H5 = some (.bool (decide (nb (tagB (keys.getD N 0) (bs.take (bs.length - 4))) = r.t)), H7) ∧
        (if decide (nb (tagB (keys.getD N 0) (bs.take (bs.length - 4))) = r.t) = true then
    (∃ (t53 : Int), ldc H7 H3.next 3 = some (.int .u32 t53) ∧
    (∃ (t57a : Option Addr) (t57n : Nat) (t57k : Nat), ldc H7 D (0 + 1) = some (.slice t57a t57n t57k) ∧
    (∃ (t59 : Int), ldc H7 H3.next 0 = some (.int .i64 t59) ∧
    (∃ (t57ab t57ao : Nat), t57a = some ⟨t57ab, t57ao, none⟩ ∧
    ((0 : Int) ≤ t59 ∧ t59 < ((t57n : Nat) : Int) ∧
    (∃ (t61 : Int), ldc H7 t57ab (t57ao + Int.toNat t59 * 1) = some (.int .u32 t61) ∧
    (if t53 ≤ t61 then
    (∃ (H_8 : Heap), stc H7 H.next 0 gr0.cells = some H_8 ∧
    (∃ (r6c0_2 : Int) (r6c1_2 : Int) (r6c2_2 : Int) (r6c3a_2 : Option Addr) (r6c3n_2 : Nat) (r6c3k_2 : Nat) (r6c4_2 : Int), ldAll H_8 H.next 0 [.int .i64 r6c0_2, .int .i64 r6c1_2, .int .u32 r6c2_2, .slice r6c3a_2 r6c3n_2 r6c3k_2, .int .u32 r6c4_2] ∧
    (rv = (.tuple #[.agg #[.int .i64 r6c0_2, .int .i64 r6c1_2, .int .u32 r6c2_2, .slice r6c3a_2 r6c3n_2 r6c3k_2, .int .u32 r6c4_2], .int .i64 8], H_8))))
    else
    (∃ (t67a : Option Addr) (t67n : Nat) (t67k : Nat), ldc H7 D (0 + 1) = some (.slice t67a t67n t67k) ∧
    (∃ (t69 : Int), ldc H7 H3.next 0 = some (.int .i64 t69) ∧
    (∃ (t71 : Int), ldc H7 H3.next 3 = some (.int .u32 t71) ∧
    (∃ (t67ab t67ao : Nat), t67a = some ⟨t67ab, t67ao, none⟩ ∧
    ((0 : Int) ≤ t69 ∧ t69 < ((t67n : Nat) : Int) ∧
    (∃ (H_9 : Heap), stc H7 t67ab (t67ao + Int.toNat t69 * 1) [.int .u32 t71] = some H_9 ∧
    (∃ (t74 : Int), ldc H_9 H3.next 0 = some (.int .i64 t74) ∧
    (∃ (t76 : Int), ldc H_9 H3.next 2 = some (.int .u32 t76) ∧
    (∃ (H_10 : Heap), H_10 = H_9.push (.row [.int .i64 0, .int .i64 0, .int .u32 0, .slice none 0 0, .int .u32 0] true) ∧
    (∃ (H_11 : Heap), stc H_10 H_9.next 0 [.int .i64 t74, .int .i64 1, .int .u32 t76, .slice none 0 0, .int .u32 0] = some H_11 ∧
    (∃ (t79 : Bool) (H_12 : Heap), xC Try.prog good 44 [.slice a2 n2 k2] H_11 = some (.bool t79, H_12) ∧
    (if t79 = true then
    (∃ (t81a : Option Addr) (t81n : Nat) (t81k : Nat) (H_13 : Heap), xC Try.prog good 45 [.slice a2 n2 k2] H_12 = some (.slice t81a t81n t81k, H_13) ∧
    (∃ (H_14 : Heap), stc H_13 H_9.next 1 [.int .i64 0] = some H_14 ∧
    (∃ (H_15 : Heap), stc H_14 H_9.next 3 [.slice t81a t81n t81k] = some H_15 ∧
    (L0 D 0 (H.next) (0) (H3.next) (0) (H_9.next) (0) H_15 rv))))
    else
    (L0 D 0 (H.next) (0) (H3.next) (0) (H_9.next) (0) H_12 rv))))))))))))))))))))
    else
    (∃ (H_16 : Heap), stc H7 H.next 0 gr0.cells = some H_16 ∧
    (∃ (r6c0_3 : Int) (r6c1_3 : Int) (r6c2_3 : Int) (r6c3a_3 : Option Addr) (r6c3n_3 : Nat) (r6c3k_3 : Nat) (r6c4_3 : Int), ldAll H_16 H.next 0 [.int .i64 r6c0_3, .int .i64 r6c1_3, .int .u32 r6c2_3, .slice r6c3a_3 r6c3n_3 r6c3k_3, .int .u32 r6c4_3] ∧
    (rv = (.tuple #[.agg #[.int .i64 r6c0_3, .int .i64 r6c1_3, .int .u32 r6c2_3, .slice r6c3a_3 r6c3n_3 r6c3k_3, .int .u32 r6c4_3], .int .i64 10], H_16))))))) →
      Cc 22 [.pointer (some ⟨D, 0, none⟩), .slice a n k, .slice a2 n2 k2] H = some rv := by
    intro rv hv
    refine call ⟨_, e1, ?_⟩
    rw [if_neg (by simp)]
    refine ⟨_, _, _, _, _, _, _, c3, _, rfl, H5, s5, ?_⟩
    rw [if_pos h0]
    refine ⟨_, rldc' g5 0, D, 0, rfl, _, _, _, rldc' d5.row 0, ?_⟩
    by_cases hk : r.n ≥ (keys.length : Int)
    · rw [if_pos hk] at hv ⊢
      exact hv
    · rw [if_neg hk] at hv ⊢
      obtain ⟨H7, c7, hv⟩ := hv
      obtain ⟨kb, ko, hkb⟩ := d5.ks.at (by omega)
      have ks5 := d5.ks
      rw [hkb] at ks5
      refine ⟨_, _, _, rldc' d5.row 0, _, rldc' g5 0, kb, ko, hkb, q3.1, by omega, keys.getD N 0, ?_, _, rldc' g5 4, _, H7, c7, hv⟩
      rw [hN]
      exact Ints.get ks5 (getD_some (by omega))
  by_cases hk : r.n ≥ (keys.length : Int)
  · rw [if_pos hk]
    obtain ⟨Z, z1, z2, z3, z4⟩ := none_ gR5 (k05.chg0 (S := In1 ca)) d5
    refine ⟨gr0, Z, go1 _ ?_, gr0_ok _, rfl, fun b hb => absurd hb In1.none, z3, z4⟩
    rw [if_pos hk]
    exact ⟨Z, z1, _, _, _, _, _, _, _, z2, rfl⟩
  have hNk : N < keys.length := by omega
  rw [if_neg hk]
  have eN : r.n.toNat = N := by omega
  rw [eN]
  obtain ⟨H7, c7, k7⟩ := F43.ok (keys.getD N 0) r.t hs5 (by omega) (by omega)
  have n7 := k7.next
  have k07 : Keep H.next H H7 := k05.trans (k7.weak (by omega))
  have gR7 : H7.get H.next = .row gr0.cells true := by rw [k7.get _ (by omega)]; exact gR5
  have g7 : H7.get H3.next = .row r.cells true := by rw [k7.get _ (by omega)]; exact g5
  have d7 := d5.new k7
  by_cases ht : nb (tagB (keys.getD N 0) (bs.take (bs.length - 4))) ≠ r.t
  · rw [if_pos ht]
    obtain ⟨Z, z1, z2, z3, z4⟩ := none_ gR7 (k07.chg0 (S := In1 ca)) d7
    refine ⟨gr0, Z, go1 _ ?_, gr0_ok _, rfl, fun b hb => absurd hb In1.none, z3, z4⟩
    rw [if_neg hk]
    refine ⟨H7, c7, ?_⟩
    rw [if_neg (by simpa using ht)]
    exact ⟨Z, z1, _, _, _, _, _, _, _, z2, rfl⟩
  rw [if_neg ht]
  replace ht := Classical.not_not.1 ht
  obtain ⟨cb, co, hcb⟩ := d7.cs.sl.at (by omega)
  have cs7 : OwnI .u32 0 H7 ca keys.length ck counts := d7.cs
  have hcl : counts.length = keys.length := cs7.ln
  have cs7' := cs7
  rw [hcb] at cs7'
  have lc := Ints.get cs7'.sl (getD_some (xs := counts) (j := N) (by omega))
  by_cases hc' : r.c ≤ counts.getD N 0
  · rw [if_pos hc']
    obtain ⟨Z, z1, z2, z3, z4⟩ := none_ gR7 (k07.chg0 (S := In1 ca)) d7
    refine ⟨gr0, Z, go1 _ ?_, gr0_ok _, rfl, fun b hb => absurd hb In1.none, z3, z4⟩
    rw [if_neg hk]
    refine ⟨H7, c7, ?_⟩
    rw [if_pos (decide_eq_true ht)]
    refine ⟨_, rldc' g7 3, _, _, _, rldc' d7.row 1, _, rldc' g7 0, cb, co, hcb, q3.1, by omega, _, by rw [hN]; exact lc, ?_⟩
    rw [if_pos hc']
    exact ⟨Z, z1, _, _, _, _, _, _, _, z2, rfl⟩
  rw [if_neg hc']
  obtain ⟨H9, s9, o9, f9, n9⟩ := OwnI.putc cs7' (i := N) (by omega) r.c
  have f9' : Chg (In1 ca) H7 H9 := by rw [hcb]; exact f9
  have g9 : H9.get H3.next = .row r.cells true := by rw [f9'.get _ (by omega) (fun hh => by have := hd.cl _ hh; omega)]; exact g7
  have gR9 : H9.get H.next = .row gr0.cells true := by rw [f9'.get _ (by omega) (fun hh => by have := hd.cl _ hh; omega)]; exact gR7
  have d9 : DK H9 D ka kk ca ck keys (counts.set N r.c) := ⟨by rw [f9'.get _ d7.lt d7.apc]; exact d7.row, by rw [n9]; exact d7.lt, d7.ks.chg f9' fun b hb hh => d7.ap b hh hb, by rw [hcb]; exact o9, d7.apk, d7.apc, d7.ap, d7.n⟩
  have hcH : Cells H a2 n2 k2 l := hc
  have c79 : Chg (In1 ca) H H9 := (k07.chg0 (S := In1 ca)).trans f9' fun _ _ h => h
  have cc9 : Cells H9 a2 n2 k2 l := (hc.keep k07).chg f9' fun b hb hh => hap2 b hb hh
  have hn9 : H.next < H9.next := by omega
  let gA : Gr := ⟨⟨r.n, 1, r.a, [], 0⟩, none, 0⟩
  obtain ⟨H11, s11, g11, k11, n11⟩ := fill H9 gr0.cells gA.cells rfl
  obtain ⟨H12, c12, k12⟩ := F44.ok (cc9.keep k11) hn2
  have n12 := k12.next
  have k912 := k11.th k12
  have g12 : H12.get H9.next = .row gA.cells true := by rw [k12.get _ (by omega)]; exact g11
  have start : ∀ rv, (if decide (cellsP l) = true then
      (∃ (t81a : Option Addr) (t81n : Nat) (t81k : Nat) (H_13 : Heap), Cc 45 [.slice a2 n2 k2] H12 = some (.slice t81a t81n t81k, H_13) ∧
      (∃ (H_14 : Heap), stc H_13 H9.next 1 [.int .i64 0] = some H_14 ∧
      (∃ (H_15 : Heap), stc H_14 H9.next 3 [.slice t81a t81n t81k] = some H_15 ∧
      (L0 D 0 (H.next) (0) (H3.next) (0) (H9.next) (0) H_15 rv))))
      else
      (L0 D 0 (H.next) (0) (H3.next) (0) (H9.next) (0) H12 rv)) → Cc 22 [.pointer (some ⟨D, 0, none⟩), .slice a n k, .slice a2 n2 k2] H = some rv := by
    intro rv hv
    refine go1 _ ?_
    rw [if_neg hk]
    refine ⟨H7, c7, ?_⟩
    rw [if_pos (decide_eq_true ht)]
    refine ⟨_, rldc' g7 3, _, _, _, rldc' d7.row 1, _, rldc' g7 0, cb, co, hcb, q3.1, by omega, _, by rw [hN]; exact lc, ?_⟩
    rw [if_neg hc']
    exact ⟨_, _, _, rldc' d7.row 1, _, rldc' g7 0, _, rldc' g7 3, cb, co, hcb, q3.1, by omega, H9, by rw [hN]; exact s9, _, rldc' g9 0, _, rldc' g9 2, _, rfl, H11, s11, _, H12, c12, hv⟩
  -- the grant is given, and read again
  have l0 : ∀ {Y : Heap} {g : Gr}, Keep H9.next H9 Y → Y.get H9.next = .row g.cells true → GrOk Y g → g.v = given r l → ∃ (g' : Gr) (H' : Heap), L0 D 0 (H.next) (0) (H3.next) (0) (H9.next) (0) Y (.tuple #[g'.agg, .int .i64 0], H') ∧ GrOk H' g' ∧ g'.v = { given r l with t := nb (tagB (keys.getD N 0) (encG (given r l))) } ∧ (∀ b, In1 g'.sa b → H.next ≤ b) ∧ DK H' D ka kk ca ck keys (counts.set N r.c) ∧ Chg (In1 ca) H H' := by
    intro Y g kY gY gok gv
    have hm : mayG (given r l) := given_may q3
    have nY := kY.next
    have dY := d9.new kY
    obtain ⟨kb, ko, hkb⟩ := dY.ks.at (by omega)
    have ksY := dY.ks
    rw [hkb] at ksY
    obtain ⟨a1, j1, Y1, c1, o1, k1'⟩ := F11.ok (keys.getD N 0) gok
    rw [gv, if_pos hm] at c1
    rw [gv] at o1
    have eg : giveB (keys.getD N 0) (given r l) = sealed (keys.getD N 0) (encG (given r l)) := if_pos hm
    rw [eg] at c1 o1
    obtain ⟨g', Y2, c2, gok2, gv2, gap2, k2'⟩ := F16.ok o1.sl (sealed_isB (encG_isB hm)) (by have := hm.2.2.1; rw [sealed_len, encG_len]; omega)
    have ed := decG_give (keys.getD N 0) hm (by rw [(given_n r l).2, q6]; exact u32V _ _)
    rw [ed] at c2 gv2
    have k12' := k1'.th k2'
    have n2' := k12'.next
    have gR2 : Y2.get H.next = .row gr0.cells true := by rw [k12'.get _ (by omega), kY.get _ (by omega)]; exact gR9
    let Z := Y2.set H.next (.row g'.cells true)
    have s3 : stc Y2 H.next 0 g'.cells = some Z := rstAll gR2 rfl
    have gZ : Z.get H.next = .row g'.cells true := by simp [Z]
    have n1' := k1'.next
    refine ⟨g', Z, L0_step ?_, ⟨gok2.l.chg (chgSet' _) fun b hb hh => by have := gap2 b hb; have hh : b = H.next := hh; omega, gok2.s⟩, gv2, fun b hb => by have := gap2 b hb; omega, (dY.new k12').set (by omega) (fun hh => by have := hd.kl _ hh; omega) (fun hh => by have := hd.cl _ hh; omega), ((c79.trans (kY.chg0 (S := In1 ca)) fun _ _ h => h).trans (k12'.chg0 (S := In1 ca)) fun _ _ h => h).trans (T := fun b => b = H.next) (chgSet' _) fun b hb hh => by have hh : b = H.next := hh; omega⟩
    refine ⟨_, _, _, rldc' dY.row 0, _, rldc' (show Y.get H3.next = .row r.cells true by rw [kY.get _ (by omega)]; exact g9) 0, kb, ko, hkb, q3.1, by omega, _, by rw [hN]; exact Ints.get ksY (getD_some (by omega)), _, _, _, _, _, _, _, rldAll gY, _, _, _, _, _, c1, _, _, _, _, _, _, _, _, _, c2, Z, s3, _, _, _, _, _, _, _, rldAll gZ, rfl⟩
  by_cases hp : cellsP l
  · obtain ⟨a13, k13', H13, c13, o13, k13⟩ := F45.ok (cc9.keep k912) hn2
    have hll := hc.cnt C5.z (by decide)
    let gB : Gr := ⟨⟨r.n, 0, r.a, l, 0⟩, a13, k13'⟩
    have n13 := k13.next
    have g13 : H13.get H9.next = .row gA.cells true := by rw [k13.get _ (by omega)]; exact g12
    let X14 := H13.set H9.next (.row (rowG r.n 0 r.a none 0 0 0) true)
    have s14 : stc H13 H9.next 1 [.int .i64 0] = some X14 := rstc' g13 (i := 1) (by simp) _
    have g14 : X14.get H9.next = .row (rowG r.n 0 r.a none 0 0 0) true := by simp [X14]
    let X15 := X14.set H9.next (.row gB.cells true)
    have s15 : stc X14 H9.next 3 [.slice a13 n2 k13'] = some X15 := by
      have := rstc' g14 (i := 3) (by simp) (.slice a13 n2 k13')
      rw [this]
      show some (X14.set H9.next (.row (rowG r.n 0 r.a a13 n2 k13' 0) true)) = some (X14.set H9.next (.row (rowG r.n 0 r.a a13 l.length k13' 0) true))
      rw [hll]
    have g15 : X15.get H9.next = .row gB.cells true := by simp [X15]
    have k15 : Keep H9.next H9 X15 := ((k912.th k13).trans (Keep.set _ (Nat.le_refl _))).trans (Keep.set _ (Nat.le_refl _))
    have ok15 : GrOk X15 gB := ⟨by
      show Cells X15 a13 l.length k13' l
      rw [hll]
      exact ((o13.chg (chgSet' _) fun b hb hh => by have := (o13.lt hb).1; have hh : b = H9.next := hh; omega).chg (chgSet' _) fun b hb hh => by have := (o13.lt hb).1; have hh : b = H9.next := hh; omega).sl, by show l.length ≤ _; omega⟩
    obtain ⟨g', H', z, r1, r2, r3, r4, r5⟩ := l0 k15 g15 ok15 (by unfold given; rw [if_pos hp])
    refine ⟨g', H', start _ ?_, r1, r2, r3, r4, r5⟩
    rw [if_pos (decide_eq_true hp)]
    exact ⟨_, _, _, H13, c13, X14, s14, X15, s15, z⟩
  · obtain ⟨g', H', z, r1, r2, r3, r4, r5⟩ := l0 k912 g12 ⟨⟨rfl, .inl ⟨rfl, rfl, rfl⟩⟩, by show 0 ≤ _; omega⟩ (by unfold given; rw [if_neg hp])
    refine ⟨g', H', start _ ?_, r1, r2, r3, r4, r5⟩
    rw [if_neg (by simpa using hp)]
    exact z
end F22
/-- Who asks. -/
abbrev rowS (n key c a : Int) (w : Bool) : List Value := [.int .i64 n, .int .u64 key, .int .u32 c, .int .u32 a, .bool w]
namespace F20
theorem ok {n : Int} (key : Int) (hn : inP n 0 15) (H : Heap) : ∃ H', Cc 20 [.int .i64 n, .int .u64 key] H = some (.pointer (some ⟨H.next, 0, none⟩), H') ∧ H'.get H.next = .row (rowS n key 0 0 false) true ∧ H'.next = H.next + 1 ∧ Keep H.next H H' := by
  obtain ⟨H1, e1, n1, g1, k1⟩ := one H (rowS n key 0 0 false)
  refine ⟨H1, call ⟨_, _, F42.ok _ _, ?_⟩, g1, n1, k1⟩
  rw [if_pos (decide_eq_true hn)]
  exact ⟨_, e1, rfl⟩
end F20
namespace F21
theorem ok {H : Heap} {S : Nat} {n key c a0 parent a : Int} {w : Bool} (g : H.get S = .row (rowS n key c a0 w) true) (hS : S < H.next) (hn : inP n 0 15) (hp : inP parent 0 15) (hne : parent ≠ n) (hc : 0 ≤ c ∧ c < 4294967295) :
    ∃ (x : Option Addr) (k : Nat) (H' : Heap), Cc 21 [.pointer (some ⟨S, 0, none⟩), .int .i64 parent, .int .u32 a] H = some (.tuple #[.slice x (sealed key (encR ⟨n, parent, a, c + 1, 0⟩)).length k, .int .i64 0], H') ∧ OwnI .u8 H.next H' x (sealed key (encR ⟨n, parent, a, c + 1, 0⟩)).length k (sealed key (encR ⟨n, parent, a, c + 1, 0⟩)) ∧ H'.get S = .row (rowS n key (c + 1) a true) true ∧ Chg (fun b => b = S) H H' := by
  have ew : IntKind.wrap .u32 (c + 1) = c + 1 := u32_id ⟨by omega, by show c + 1 < 2 ^ 32; omega⟩
  let X1 := H.set S (.row (rowS n key (c + 1) a0 w) true)
  let X2 := X1.set S (.row (rowS n key (c + 1) a w) true)
  let X3 := X2.set S (.row (rowS n key (c + 1) a true) true)
  have s1 : stc H S 2 [.int .u32 (IntKind.wrap .u32 (c + 1))] = some X1 := by rw [ew]; exact rstc' g (i := 2) (by simp) _
  have g1 : X1.get S = .row (rowS n key (c + 1) a0 w) true := by simp [X1]
  have s2 : stc X1 S 3 [.int .u32 a] = some X2 := rstc' g1 (i := 3) (by simp) _
  have g2 : X2.get S = .row (rowS n key (c + 1) a w) true := by simp [X2]
  have s3 : stc X2 S 4 [.bool true] = some X3 := rstc' g2 (i := 4) (by simp) _
  have g3 : X3.get S = .row (rowS n key (c + 1) a true) true := by simp [X3]
  have hm : mayR ⟨n, parent, a, c + 1, 0⟩ := ⟨hn, hp, Ne.symm hne⟩
  obtain ⟨x, k, H', c4, o4, k4⟩ := F9.ok key ⟨n, parent, a, c + 1, 0⟩ X3
  have ea : askB key ⟨n, parent, a, c + 1, 0⟩ = sealed key (encR ⟨n, parent, a, c + 1, 0⟩) := if_pos hm
  rw [ea, if_pos hm] at c4
  rw [ea] at o4
  have m3 : X3.next = H.next := rfl
  refine ⟨x, k, H', call ?_, o4, by rw [k4.get _ (by omega)]; exact g3, (((chgSet' _).trans (chgSet' _) fun _ _ h => h).trans (chgSet' _) fun _ _ h => h).trans (k4.chg0 (S := fun b => b = S)) fun _ _ h => h⟩
  rw [if_neg (by simp)]
  refine ⟨_, _, F42.ok _ _, ?_⟩
  rw [if_pos (decide_eq_true hp)]
  refine ⟨S, 0, rfl, _, rldc' g 0, L0_step ?_⟩
  rw [if_neg (by simpa using hne)]
  refine ⟨S, 0, rfl, _, rldc' g 2, ?_⟩
  rw [if_neg (by omega)]
  exact ⟨_, rldc' g 2, X1, s1, X2, s2, X3, s3, _, rldc' g3 1, _, rldc' g3 0, _, rldc' g3 2, _, _, _, _, _, c4, rfl⟩
end F21
/-- What a seeker makes of bytes: the grant, the error, whether it goes on waiting. -/
def doneV (n key a : Int) (w : Bool) (bs : List Int) : (GV × Int) × Bool :=
  if w = false then ((gv0, 7), w) else if (decG bs).2 ≠ 0 then ((gv0, (decG bs).2), w) else if (decG bs).1.n ≠ n then ((gv0, 6), w)
  else if nb (tagB key (bs.take (bs.length - 4))) ≠ (decG bs).1.t then ((gv0, 10), w) else if (decG bs).1.a ≠ a then ((gv0, 8), w) else (((decG bs).1, 0), false)
namespace F26
theorem ok {H : Heap} {S : Nat} {n key c a0 : Int} {w : Bool} {a : Option Addr} {m k : Nat} {bs : List Int} (g : H.get S = .row (rowS n key c a0 w) true) (hS : S < H.next) (hs : By H a m k bs) (hb : IsB bs) (hm : m ≤ 1000) :
    ∃ (g' : Gr) (H' : Heap), Cc 26 [.pointer (some ⟨S, 0, none⟩), .slice a m k] H = some (.tuple #[g'.agg, .int .i64 (doneV n key a0 w bs).1.2], H') ∧ GrOk H' g' ∧ g'.v = (doneV n key a0 w bs).1.1 ∧ H'.get S = .row (rowS n key c a0 (doneV n key a0 w bs).2) true ∧ Chg (fun b => b = S) H H' ∧ ∀ b, In1 g'.sa b → H.next ≤ b := by
  obtain ⟨H1, e1, n1, g1, k1⟩ := one H gr0.cells
  have gS1 : H1.get S = .row (rowS n key c a0 w) true := by rw [k1.get _ hS]; exact g
  have none_ : ∀ {Y : Heap}, Y.get H.next = .row gr0.cells true → Keep H.next H Y → ∃ Z, stc Y H.next 0 gr0.cells = some Z ∧ ldAll Z H.next 0 gr0.cells ∧ Z.get S = .row (rowS n key c a0 w) true ∧ Chg (fun b => b = S) H Z := by
    intro Y gY kY
    obtain ⟨Z, z1, z2, z3, z4⟩ := noneG (low := H.next) gY (Nat.le_refl _)
    have kk := kY.trans z3
    exact ⟨Z, z1, z2, by rw [kk.get _ hS]; exact g, kk.chg0⟩
  unfold doneV
  cases w with
  | false =>
    rw [if_pos rfl]
    obtain ⟨Z, z1, z2, z3, z4⟩ := none_ g1 k1
    refine ⟨gr0, Z, call ⟨_, e1, ?_⟩, gr0_ok _, rfl, z3, z4, fun b hb => absurd hb In1.none⟩
    rw [if_neg (by simp)]
    refine ⟨S, 0, rfl, _, rldc' gS1 4, ?_⟩
    rw [if_neg (by simp)]
    exact ⟨Z, z1, _, _, _, _, _, _, _, z2, rfl⟩
  | true =>
    rw [if_neg (by simp)]
    obtain ⟨g2, H3, c3, ok3, v3, gap3, k3⟩ := F16.ok (hs.keep k1) hb (by omega)
    have n3 := k3.next
    obtain ⟨H5, s5, g5, k5, n5⟩ := fill H3 gr0.cells g2.cells rfl
    have k35 := k3.th k5
    have k05 : Keep H.next H H5 := k1.trans (k35.weak (by omega))
    have gR5 : H5.get H.next = .row gr0.cells true := by rw [k35.get _ (by omega)]; exact g1
    have gS5 : H5.get S = .row (rowS n key c a0 true) true := by rw [k05.get _ hS]; exact g
    have hl := hs.ln
    have start : ∀ rv, (if (decG bs).2 = 0 then
        (∃ (t31 : Int), ldc H5 H3.next 0 = some (.int .i64 t31) ∧
        (∃ (t35 : Int), ldc H5 S 0 = some (.int .i64 t35) ∧
        (if t31 = t35 then
        (∃ (t42 : Int), ldc H5 S (0 + 1) = some (.int .u64 t42) ∧
        (∃ (t45 : Int), ldc H5 H3.next 4 = some (.int .u32 t45) ∧
        (∃ (t46 : Bool) (H_6 : Heap), Cc 43 [.int .u64 t42, .slice a m k, .int .u32 t45] H5 = some (.bool t46, H_6) ∧
        (if t46 = true then
        (∃ (t51 : Int), ldc H_6 H3.next 2 = some (.int .u32 t51) ∧
        (∃ (t55 : Int), ldc H_6 S (0 + 3) = some (.int .u32 t55) ∧
        (if t51 = t55 then
        (∃ (H_7 : Heap), stc H_6 S (0 + 4) [.bool false] = some H_7 ∧
        (∃ (t61c0 : Int) (t61c1 : Int) (t61c2 : Int) (t61c3a : Option Addr) (t61c3n : Nat) (t61c3k : Nat) (t61c4 : Int), ldAll H_7 H3.next 0 [.int .i64 t61c0, .int .i64 t61c1, .int .u32 t61c2, .slice t61c3a t61c3n t61c3k, .int .u32 t61c4] ∧
        (∃ (H_8 : Heap), stc H_7 H.next 0 [.int .i64 t61c0, .int .i64 t61c1, .int .u32 t61c2, .slice t61c3a t61c3n t61c3k, .int .u32 t61c4] = some H_8 ∧
        (∃ (r4c0_1 : Int) (r4c1_1 : Int) (r4c2_1 : Int) (r4c3a_1 : Option Addr) (r4c3n_1 : Nat) (r4c3k_1 : Nat) (r4c4_1 : Int), ldAll H_8 H.next 0 [.int .i64 r4c0_1, .int .i64 r4c1_1, .int .u32 r4c2_1, .slice r4c3a_1 r4c3n_1 r4c3k_1, .int .u32 r4c4_1] ∧
        (rv = (.tuple #[.agg #[.int .i64 r4c0_1, .int .i64 r4c1_1, .int .u32 r4c2_1, .slice r4c3a_1 r4c3n_1 r4c3k_1, .int .u32 r4c4_1], .int .i64 0], H_8))))))
        else
        (∃ (H_9 : Heap), stc H_6 H.next 0 gr0.cells = some H_9 ∧
        (∃ (r4c0_2 : Int) (r4c1_2 : Int) (r4c2_2 : Int) (r4c3a_2 : Option Addr) (r4c3n_2 : Nat) (r4c3k_2 : Nat) (r4c4_2 : Int), ldAll H_9 H.next 0 [.int .i64 r4c0_2, .int .i64 r4c1_2, .int .u32 r4c2_2, .slice r4c3a_2 r4c3n_2 r4c3k_2, .int .u32 r4c4_2] ∧
        (rv = (.tuple #[.agg #[.int .i64 r4c0_2, .int .i64 r4c1_2, .int .u32 r4c2_2, .slice r4c3a_2 r4c3n_2 r4c3k_2, .int .u32 r4c4_2], .int .i64 8], H_9)))))))
        else
        (∃ (H_10 : Heap), stc H_6 H.next 0 gr0.cells = some H_10 ∧
        (∃ (r4c0_3 : Int) (r4c1_3 : Int) (r4c2_3 : Int) (r4c3a_3 : Option Addr) (r4c3n_3 : Nat) (r4c3k_3 : Nat) (r4c4_3 : Int), ldAll H_10 H.next 0 [.int .i64 r4c0_3, .int .i64 r4c1_3, .int .u32 r4c2_3, .slice r4c3a_3 r4c3n_3 r4c3k_3, .int .u32 r4c4_3] ∧
        (rv = (.tuple #[.agg #[.int .i64 r4c0_3, .int .i64 r4c1_3, .int .u32 r4c2_3, .slice r4c3a_3 r4c3n_3 r4c3k_3, .int .u32 r4c4_3], .int .i64 10], H_10))))))))
        else
        (∃ (H_11 : Heap), stc H5 H.next 0 gr0.cells = some H_11 ∧
        (∃ (r4c0_4 : Int) (r4c1_4 : Int) (r4c2_4 : Int) (r4c3a_4 : Option Addr) (r4c3n_4 : Nat) (r4c3k_4 : Nat) (r4c4_4 : Int), ldAll H_11 H.next 0 [.int .i64 r4c0_4, .int .i64 r4c1_4, .int .u32 r4c2_4, .slice r4c3a_4 r4c3n_4 r4c3k_4, .int .u32 r4c4_4] ∧
        (rv = (.tuple #[.agg #[.int .i64 r4c0_4, .int .i64 r4c1_4, .int .u32 r4c2_4, .slice r4c3a_4 r4c3n_4 r4c3k_4, .int .u32 r4c4_4], .int .i64 6], H_11)))))))
        else
        (∃ (H_12 : Heap), stc H5 H.next 0 gr0.cells = some H_12 ∧
        (∃ (r4c0_5 : Int) (r4c1_5 : Int) (r4c2_5 : Int) (r4c3a_5 : Option Addr) (r4c3n_5 : Nat) (r4c3k_5 : Nat) (r4c4_5 : Int), ldAll H_12 H.next 0 [.int .i64 r4c0_5, .int .i64 r4c1_5, .int .u32 r4c2_5, .slice r4c3a_5 r4c3n_5 r4c3k_5, .int .u32 r4c4_5] ∧
        (rv = (.tuple #[.agg #[.int .i64 r4c0_5, .int .i64 r4c1_5, .int .u32 r4c2_5, .slice r4c3a_5 r4c3n_5 r4c3k_5, .int .u32 r4c4_5], .int .i64 (decG bs).2], H_12))))) → Cc 26 [.pointer (some ⟨S, 0, none⟩), .slice a m k] H = some rv := by
      intro rv hv
      refine call ⟨_, e1, ?_⟩
      rw [if_neg (by simp)]
      refine ⟨S, 0, rfl, _, rldc' gS1 4, ?_⟩
      rw [if_pos rfl]
      exact ⟨_, _, _, _, _, _, _, _, _, c3, _, rfl, H5, s5, hv⟩
    by_cases h0 : (decG bs).2 ≠ 0
    · rw [if_pos h0]
      obtain ⟨Z, z1, z2, z3, z4⟩ := none_ gR5 k05
      refine ⟨gr0, Z, start _ ?_, gr0_ok _, rfl, z3, z4, fun b hb => absurd hb In1.none⟩
      rw [if_neg h0]
      exact ⟨Z, z1, _, _, _, _, _, _, _, z2, rfl⟩
    rw [if_neg h0]
    replace h0 := Classical.not_not.1 h0
    obtain ⟨q1, q2⟩ := decG_ok h0
    by_cases h1 : (decG bs).1.n ≠ n
    · rw [if_pos h1]
      obtain ⟨Z, z1, z2, z3, z4⟩ := none_ gR5 k05
      refine ⟨gr0, Z, start _ ?_, gr0_ok _, rfl, z3, z4, fun b hb => absurd hb In1.none⟩
      rw [if_pos h0]
      refine ⟨_, rldc' g5 0, _, rldc' gS5 0, ?_⟩
      rw [if_neg (by rw [v3]; exact h1)]
      exact ⟨Z, z1, _, _, _, _, _, _, _, z2, rfl⟩
    rw [if_neg h1]
    replace h1 := Classical.not_not.1 h1
    obtain ⟨H6, c6, k6⟩ := F43.ok key (decG bs).1.t (hs.keep k05) (by omega) (by omega)
    have n6 := k6.next
    have k06 : Keep H.next H H6 := k05.trans (k6.weak (by omega))
    have gR6 : H6.get H.next = .row gr0.cells true := by rw [k6.get _ (by omega)]; exact gR5
    have gS6 : H6.get S = .row (rowS n key c a0 true) true := by rw [k06.get _ hS]; exact g
    have g6 : H6.get H3.next = .row g2.cells true := by rw [k6.get _ (by omega)]; exact g5
    have ev4 : g2.v.t = (decG bs).1.t := by rw [v3]
    by_cases ht : nb (tagB key (bs.take (bs.length - 4))) ≠ (decG bs).1.t
    · rw [if_pos ht]
      obtain ⟨Z, z1, z2, z3, z4⟩ := none_ gR6 k06
      refine ⟨gr0, Z, start _ ?_, gr0_ok _, rfl, z3, z4, fun b hb => absurd hb In1.none⟩
      rw [if_pos h0]
      refine ⟨_, rldc' g5 0, _, rldc' gS5 0, ?_⟩
      rw [if_pos (by rw [v3]; exact h1)]
      refine ⟨_, rldc' gS5 1, _, rldc' g5 4, _, H6, by rw [ev4]; exact c6, ?_⟩
      rw [if_neg (by simpa using ht)]
      exact ⟨Z, z1, _, _, _, _, _, _, _, z2, rfl⟩
    rw [if_neg ht]
    replace ht := Classical.not_not.1 ht
    by_cases ha : (decG bs).1.a ≠ a0
    · rw [if_pos ha]
      obtain ⟨Z, z1, z2, z3, z4⟩ := none_ gR6 k06
      refine ⟨gr0, Z, start _ ?_, gr0_ok _, rfl, z3, z4, fun b hb => absurd hb In1.none⟩
      rw [if_pos h0]
      refine ⟨_, rldc' g5 0, _, rldc' gS5 0, ?_⟩
      rw [if_pos (by rw [v3]; exact h1)]
      refine ⟨_, rldc' gS5 1, _, rldc' g5 4, _, H6, by rw [ev4]; exact c6, ?_⟩
      rw [if_pos (decide_eq_true ht)]
      refine ⟨_, rldc' g6 2, _, rldc' gS6 3, ?_⟩
      rw [if_neg (by rw [v3]; exact ha)]
      exact ⟨Z, z1, _, _, _, _, _, _, _, z2, rfl⟩
    rw [if_neg ha]
    replace ha := Classical.not_not.1 ha
    let X7 := H6.set S (.row (rowS n key c a0 false) true)
    have s7 : stc H6 S 4 [.bool false] = some X7 := rstc' gS6 (i := 4) (by simp) _
    have g7 : X7.get H3.next = .row g2.cells true := by
      show (H6.set _ _).get _ = _
      rw [Heap.get_set_ne _ _ _ _ (by omega)]; exact g6
    have gR7 : X7.get H.next = .row gr0.cells true := by
      show (H6.set _ _).get _ = _
      rw [Heap.get_set_ne _ _ _ _ (by omega)]; exact gR6
    let X8 := X7.set H.next (.row g2.cells true)
    have s8 : stc X7 H.next 0 g2.cells = some X8 := rstAll gR7 rfl
    have g8 : X8.get H.next = .row g2.cells true := by simp [X8]
    have gS8 : X8.get S = .row (rowS n key c a0 false) true := by
      show ((H6.set _ _).set _ _).get _ = _
      rw [Heap.get_set_ne _ _ _ _ (by omega)]; simp
    refine ⟨g2, X8, start _ ?_, ⟨(((ok3.l.keep k5).keep k6).chg (chgSet' _) fun b hb hh => by have := gap3 b hb; have hh : b = S := hh; omega).chg (chgSet' _) fun b hb hh => by have := gap3 b hb; have hh : b = H.next := hh; omega, ok3.s⟩, v3, gS8, ((k06.chg0 (S := fun b => b = S)).trans (chgSet' _) fun _ _ h => h).trans (T := fun b => b = H.next) (chgSet' _) fun b hb hh => by (have hh : b = H.next := hh); omega, fun b hb => by have := gap3 b hb; omega⟩
    rw [if_pos h0]
    refine ⟨_, rldc' g5 0, _, rldc' gS5 0, ?_⟩
    rw [if_pos (by rw [v3]; exact h1)]
    refine ⟨_, rldc' gS5 1, _, rldc' g5 4, _, H6, by rw [ev4]; exact c6, ?_⟩
    rw [if_pos (decide_eq_true ht)]
    refine ⟨_, rldc' g6 2, _, rldc' gS6 3, ?_⟩
    rw [if_pos (by rw [v3]; exact ha)]
    exact ⟨X7, s7, _, _, _, _, _, _, _, rldAll g7, X8, s8, _, _, _, _, _, _, _, rldAll g8, rfl⟩
end F26
namespace F27
theorem ok {H : Heap} {D : Nat} {ka ca : Option Addr} {kk ck : Nat} {keys counts : List Int} (hd : DK H D ka kk ca ck keys counts) (j : Nat) : Cc 27 [.pointer (some ⟨D, 0, none⟩), .int .i64 (j : Int)] H = some (.tuple #[.int .u32 (if j < keys.length then counts.getD j 0 else 0), .bool (decide (j < keys.length))], H) := by
  have hcl : counts.length = keys.length := hd.cs.ln
  refine call ?_
  rw [if_neg (by simp), if_neg (by omega)]
  refine ⟨D, 0, rfl, _, _, _, rldc' hd.row 0, L0_step ?_⟩
  by_cases h : j < keys.length
  · rw [if_neg (by simp; omega), if_pos h, decide_eq_true h]
    obtain ⟨cb, co, hcb⟩ := hd.cs.sl.at (by omega)
    have cs : OwnI .u32 0 H ca keys.length ck counts := hd.cs
    rw [hcb] at cs
    exact ⟨D, 0, rfl, _, _, _, rldc' hd.row 1, cb, co, hcb, by omega, by omega, _, Ints.get cs.sl (getD_some (by omega)), rfl⟩
  · rw [if_pos (by simp; omega), if_neg h, decide_eq_false h]
end F27
instance u32dec (x : Int) : Decidable (U32 x) := by unfold U32; infer_instance
theorem sealed_take (key : Int) (xs : List Int) : (sealed key xs).take ((sealed key xs).length - 4) = xs := by
  rw [sealed_len, Nat.add_sub_cancel]; unfold sealed; rw [List.take_left]
theorem takeV_ask {keys counts : List Int} {key : Int} {v : RQ} {l : List C5} {N : Nat} (hm : mayR v) (ha : U32 v.a) (hc : U32 v.c) (hN : v.n = (N : Int)) (hk : keys[N]? = some key) (hlt : counts.getD N 0 < v.c) :
    takeV keys counts (sealed key (encR v)) l = (({ F22.given ⟨v.n, v.p, v.a, v.c, nb (tagB key (encR v))⟩ l with t := nb (tagB key (encG (F22.given ⟨v.n, v.p, v.a, v.c, nb (tagB key (encR v))⟩ l))) }, 0), counts.set N v.c) := by
  have hl := (List.getElem?_eq_some_iff.1 hk).1
  have eN : v.n.toNat = N := by omega
  have ek : keys.getD N 0 = key := by rw [List.getD, hk]; rfl
  rw [F22.takeV_eq, decR_ask key hm ha hc]
  simp only
  rw [eN, ek, sealed_take, if_neg (fun c => c rfl), if_neg (by omega), if_neg (fun c => c rfl), if_neg (by omega)]
theorem takeV_old {keys counts : List Int} {key : Int} {v : RQ} {l : List C5} {N : Nat} (hm : mayR v) (ha : U32 v.a) (hc : U32 v.c) (hN : v.n = (N : Int)) (hk : keys[N]? = some key) (hlt : v.c ≤ counts.getD N 0) : takeV keys counts (sealed key (encR v)) l = ((gv0, 8), counts) := by
  have hl := (List.getElem?_eq_some_iff.1 hk).1
  have eN : v.n.toNat = N := by omega
  have ek : keys.getD N 0 = key := by rw [List.getD, hk]; rfl
  rw [F22.takeV_eq, decR_ask key hm ha hc]
  simp only
  rw [eN, ek, sealed_take, if_neg (fun c => c rfl), if_neg (by omega), if_neg (fun c => c rfl), if_pos hlt]
theorem doneV_give {key n a : Int} {g : GV} (hm : mayG g) (ha : U32 g.a) (hn : g.n = n) (hg : g.a = a) : doneV n key a true (sealed key (encG g)) = (({ g with t := nb (tagB key (encG g)) }, 0), false) := by
  unfold doneV
  rw [if_neg (by simp), decG_give key hm ha]
  simp only
  rw [sealed_take, if_neg (fun c => c rfl), if_neg (fun c => c hn), if_neg (fun c => c rfl), if_neg (fun c => c hg)]
def cA : C5 := ⟨0, 3, 0, 1, 0⟩
theorem cA_may : mayC cA := by decide +kernel
namespace F8
theorem ok (H : Heap) : ∃ H', Cc 8 [] H = some (.bool true, H') ∧ Keep H.next H H' := by
  obtain ⟨H1, e1, n1, g1, k1⟩ := one H [.int .u64 0, .int .u64 7]
  have s1 : Ints .u64 H1 (some ⟨H.next, 0, none⟩) 2 (UNK 1) [0, 7] := Sl.ofRow g1 (by omega)
  obtain ⟨D, ka, ca, kk, ck, H2, c2, d2, hD, hka, hca, k2⟩ := F19.ok s1 (by decide) (by decide)
  have dl := d2.lt
  have hkl := d2.kl
  have hcl := d2.cl
  obtain ⟨H3, c3, g3, n3, k3⟩ := F20.ok (n := 1) 7 (by decide) H2
  have d3 := d2.new k3
  have n2 := k2.next
  obtain ⟨x4, j4, H4, c4, o4, g4, f4⟩ := F21.ok (parent := 0) (a := 99) g3 (by omega) (by decide) (by decide) (by decide) (by decide)
  have d4 := d3.chg f4 (by show ¬D = H2.next; omega) (fun b hb hh => by have := hkl b hb; have hh : b = H2.next := hh; omega) fun b hb hh => by have := hcl b hb; have hh : b = H2.next := hh; omega
  have n4 := f4.next
  have hv : mayR (⟨1, 0, 99, 0 + 1, 0⟩ : RQ) := by decide
  obtain ⟨H5, e5, n5, g5, k5⟩ := one H4 cA.cells
  have cl5 : Cells H5 (some ⟨H4.next, 0, none⟩) 1 (UNK 5) [cA] := by rw [e5]; exact (Own.new (H := H4) (z := 5) (n := 1) (vs := cA.cells) rfl).sl
  have d5 := d4.new k5
  have g5' : H5.get H2.next = .row (rowS 1 7 (0 + 1) 99 true) true := by rw [k5.get _ (by omega)]; exact g4
  obtain ⟨g, H6, c6, ok6, gv6, gp6, d6, f6⟩ := F22.ok (l := [cA]) d5 (Sl.keep o4.sl k5) (sealed_isB (encR_isB hv)) (by rw [sealed_len, encR_len]; omega) cl5 (by decide) (fun b hb hh => by have := In1.eq.1 hb; have := hcl b hh; omega)
  have et := takeV_ask (keys := [0, 7]) (counts := List.replicate 2 0) (key := 7) (v := ⟨1, 0, 99, 0 + 1, 0⟩) (l := [cA]) (N := 1) hv (by decide) (by decide) rfl rfl (by decide)
  have hcp : cellsP [cA] := ⟨by decide, fun c hc => by rw [List.mem_singleton.1 hc]; exact cA_may⟩
  have eg : F22.given ⟨1, 0, 99, 0 + 1, nb (tagB 7 (encR ⟨1, 0, 99, 0 + 1, 0⟩))⟩ [cA] = ⟨1, 0, 99, [cA], 0⟩ := by unfold F22.given; rw [if_pos hcp]
  rw [eg] at et
  rw [et] at c6 gv6
  simp only at gv6
  have n6 := f6.next
  have hSc : ¬In1 ca H2.next := fun hh => by have := hcl _ hh; omega
  have g6 : H6.get H2.next = .row (rowS 1 7 (0 + 1) 99 true) true := by rw [f6.get _ (by omega) hSc]; exact g5'
  obtain ⟨H8, s8, g8, k8, n8⟩ := fill H6 gr0.cells g.cells rfl
  have hmg : mayG g.v := by rw [gv6]; exact ⟨by decide, by decide, hcp⟩
  have hga : g.v.a = 99 := by rw [gv6]
  have hgn : g.v.n = 1 := by rw [gv6]
  obtain ⟨x9, j9, H9, c9, o9, k9⟩ := F11.ok 7 (ok6.keep k8)
  have e9 : giveB 7 g.v = sealed 7 (encG g.v) := if_pos hmg
  rw [e9, if_pos hmg] at c9
  rw [e9] at o9
  have k89 := k8.th k9
  have n9 := k89.next
  have g9 : H9.get H2.next = .row (rowS 1 7 (0 + 1) 99 true) true := by rw [k89.get _ (by omega)]; exact g6
  obtain ⟨g', H10, c10, ok10, gv10, g10, f10, _⟩ := F26.ok g9 (by omega) o9.sl (sealed_isB (encG_isB hmg)) (by have := hmg.2.2.1; rw [sealed_len, encG_len]; omega)
  have ed := doneV_give (key := 7) (n := 1) (a := 99) hmg (by rw [hga]; decide) hgn hga
  rw [ed] at c10 gv10
  simp only at gv10
  obtain ⟨H12, s12, g12, k12, n12⟩ := fill H10 gr0.cells g'.cells rfl
  have n10 := f10.next
  have kk : Keep H.next H H12 := by
    have a1 := (k1.trans (k2.weak (by omega))).trans (k3.weak (by omega))
    have a2 := a1.trans (f4.keep (base := H.next) (by omega) fun b _ hh => by have hh : b = H2.next := hh; omega)
    have a3 := a2.trans (k5.weak (by omega))
    have a4 := a3.trans (f6.keep (base := H.next) (by omega) fun b _ hh => by have := hca b hh; omega)
    have a5 := a4.trans (k89.weak (by omega))
    have a6 := a5.trans (f10.keep (base := H.next) (by omega) fun b _ hh => by have hh : b = H2.next := hh; omega)
    exact a6.trans (k12.weak (by omega))
  refine ⟨H12, call ⟨_, e1, _, _, c2, _, _, c3, _, _, _, _, _, c4, _, e5, _, _, _, _, _, _, _, _, _, c6, _, rfl, H8, s8, _, _, _, _, _, _, _, rldAll g8, _, _, _, _, _, c9, _, _, _, _, _, _, _, _, _, c10, _, rfl, H12, s12, ?_⟩, kk⟩
  rw [if_pos rfl, if_pos rfl, if_pos rfl, if_pos rfl, if_pos (by rw [sealed_len, encR_len]; rfl)]
  refine ⟨_, rldc' g12 0, ?_⟩
  rw [if_pos (by rw [gv10]; exact hgn)]
  refine ⟨_, rldc' g12 2, ?_⟩
  rw [if_pos (by rw [gv10]; exact hga)]
  refine ⟨_, _, _, rldc' g12 3, ?_⟩
  rw [gv10, gv6]
  rfl
end F8
end Go.X
