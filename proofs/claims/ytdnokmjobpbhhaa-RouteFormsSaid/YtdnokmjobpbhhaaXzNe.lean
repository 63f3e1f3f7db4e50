/- The reference's packets of bytes. -/
import Derived.Test.YtdnokmjobpbhhaaXzNd
import Derived.Test.YtdnokmjobpbhhaaXzTcF
set_option linter.unusedVariables false
set_option linter.unusedSimpArgs false
set_option maxRecDepth 20000
namespace Go.X
open Go Go.RowKit Go.Proofs
/-- The reference's reader behind so many bytes. -/
abbrev RJ (Q : Nat → Prop) (H : Heap) (p : Nat) (bs : List Int) (j : Nat) : Prop := RFm Q H p (rfX bs j) (rfE bs j)
section
variable {Q : Nat → Prop} {H : Heap} {p : Nat} {bs : List Int} {j : Nat}
theorem RJ.raw (h : RJ Q H p bs j) (m : Nat) : ∃ a' k' H', Cr 74 [.pointer (some ⟨p, 0, none⟩), .int .i64 (m : Int)] H = some (.slice a' (rfT bs j m).length k', H') ∧ OwnI .u8 H.next H' a' (rfT bs j m).length k' (rfT bs j m) ∧ RJ Q H' p bs (j + m) ∧ Chg (fun b => b = p) H H' := by
  have := F74.ok h (m : Int)
  rw [rawS_st] at this
  exact this
theorem rfV (bs : List Int) (j w : Nat) : beV (rfT bs j w) = stV bs j w := by
  unfold rfT stV
  split
  · rfl
  · exact beV_nil
theorem RJ.num (hb : IsB bs) (h : RJ Q H p bs j) (m : Nat) : ∃ H', Cr 73 [.pointer (some ⟨p, 0, none⟩), .int .i64 (m : Int)] H = some (.int .u64 (stV bs j m), H') ∧ RJ Q H' p bs (j + m) ∧ Chg (fun b => b = p) H H' := by
  have := F73.ok h (rfX_isB hb j) (m : Int)
  rw [rawS_st, rfV] at this
  exact this
theorem RJ.u8 (hb : IsB bs) (h : RJ Q H p bs j) : ∃ H', Cr 72 [.pointer (some ⟨p, 0, none⟩)] H = some (.int .i64 (bs.getD j 0), H') ∧ RJ Q H' p bs (j + 1) ∧ Chg (fun b => b = p) H H' := by
  have := F72.ok h (rfX_isB hb j)
  rw [show (1 : Int) = ((1 : Nat) : Int) from rfl, rawS_st, rfT_one] at this
  exact this
theorem RJ.fin (h : RJ Q H p bs j) : Cr 75 [.pointer (some ⟨p, 0, none⟩)] H = some (.int .i64 (if bs.length < j then 2 else if j < bs.length then 3 else 0), H) := by
  have := F75.ok h
  rw [rfEnd] at this
  exact this
end
namespace F50
variable {Q : Nat → Prop} {bs : List Int} {c R0 N0 r Pq low : Nat}
theorem none_ {H : Heap} (gN : H.get N0 = .row pk0.cells true) (gR : H.get R0 = .row pk0.cells true) (hl : low ≤ R0) : ∃ X, ldAll H N0 0 pk0.cells ∧ stc H R0 0 pk0.cells = some X ∧ ldAll X R0 0 pk0.cells ∧ Keep low H X :=
  ⟨_, rldAll gN, rstAll gR rfl, rldAll (vs := pk0.cells) (own := true) (by simp), Keep.set _ hl⟩
theorem l2 (hb : IsB bs) (hc : c ≤ 16) {H : Heap} {q : Pk} (hQ : ∀ b, Q b → b < low) (hr : RJ Q H r bs (11 + c)) (gR : H.get R0 = .row pk0.cells true) (gN : H.get N0 = .row pk0.cells true) (gP : H.get Pq = .row q.cells true) (o1 : low ≤ R0) (o2 : R0 < N0) (o3 : N0 < r) (o4 : r < Pq) (o5 : Pq < H.next)
    (hqv : q.v = { decW bs c with data := [] }) (oq : Ints .i64 H q.pa q.v.path.length q.pk q.v.path) (qp : ∀ b, In1 q.pa b → b ≠ r ∧ b ≠ R0 ∧ b ≠ Pq) :
    ∃ m H', L2 R0 0 N0 0 r 0 Pq 0 (bs.getD (10 + c) 0) (decide (11 + c ≤ bs.length ∧ ¬(1 ≤ bs.getD (10 + c) 0 ∧ bs.getD (10 + c) 0 ≤ 24))) H (.tuple #[m.agg, .int .i64 (decT bs c).2], H') ∧ m.v = (decT bs c).1 ∧ PkOk H' m ∧ Keep low H H' := by
  have hk0 := (stV_one hb (10 + c)).2
  unfold decT
  simp only
  generalize hkk : bs.getD (10 + c) 0 = k at *
  by_cases h1 : 11 + c ≤ bs.length ∧ ¬(1 ≤ k ∧ k ≤ 24)
  · obtain ⟨X, x0, x1, x2, x3⟩ := none_ (low := low) gN gR o1
    rw [if_neg (by omega), if_pos h1.2, decide_eq_true h1]
    refine ⟨pk0, X, L2_step ?_, rfl, (pk0_own 0 _).ok, x3⟩
    rw [if_pos rfl]
    exact ⟨_, _, _, _, _, _, _, _, _, _, x0, X, x1, _, _, _, _, _, _, _, _, _, _, x2, rfl⟩
  · rw [decide_eq_false h1]
    obtain ⟨n, hn⟩ : ∃ n : Nat, k = (n : Int) := ⟨k.toNat, by omega⟩
    subst hn
    obtain ⟨a3, k3, H3, c3, w3, r3, f3⟩ := RJ.raw hr n
    have n3 := f3.next
    have kf3 : Keep low H H3 := f3.keep (by omega) fun b _ h => by have h : b = r := h; omega
    have gR3 : H3.get R0 = .row pk0.cells true := by rw [f3.get _ (by omega) (fun h => by have h : R0 = r := h; omega)]; exact gR
    have gN3 : H3.get N0 = .row pk0.cells true := by rw [f3.get _ (by omega) (fun h => by have h : N0 = r := h; omega)]; exact gN
    have gP3 : H3.get Pq = .row q.cells true := by rw [f3.get _ (by omega) (fun h => by have h : Pq = r := h; omega)]; exact gP
    have oq3 : Ints .i64 H3 q.pa q.v.path.length q.pk q.v.path := oq.chg f3 fun b hb h => (qp b hb).1 h
    let m : Pk := ⟨{ q.v with data := rfT bs (11 + c) n }, q.pa, q.pk, a3, k3⟩
    let X4 := H3.set Pq (.row m.cells true)
    have w4 : stc H3 Pq 5 [.slice a3 (rfT bs (11 + c) n).length k3] = some X4 := rstc' gP3 (i := 5) (by simp) _
    have gP4 : X4.get Pq = .row m.cells true := by simp [X4]
    have gR4 : X4.get R0 = .row pk0.cells true := by
      show (H3.set _ _).get _ = _
      rw [Heap.get_set_ne _ _ _ _ (by omega)]; exact gR3
    have gN4 : X4.get N0 = .row pk0.cells true := by
      show (H3.set _ _).get _ = _
      rw [Heap.get_set_ne _ _ _ _ (by omega)]; exact gN3
    have k4 : Keep low H X4 := kf3.trans (Keep.set _ (by omega))
    have hn4 : X4.next = H3.next := rfl
    have r4 : RJ Q X4 r bs (11 + c + n) := r3.chg (chgSet' _) (fun h => by have h : r = Pq := h; omega) fun b hb h => by have := hQ b hb; have h : b = Pq := h; omega
    have hst : (rfT bs (11 + c) n).length ≤ n := by unfold rfT; split <;> simp; omega
    have hpl : q.v.path.length ≤ 16 := by rw [hqv]; show (stT bs 10 c).length ≤ 16; unfold stT; split <;> simp; omega
    have mok : PkOk X4 m := ⟨oq3.chg (chgSet' _) fun b hb h => (qp b hb).2.2 h, w3.sl.chg (chgSet' _) fun b hb h => by have := (w3.lt hb).1; have h : b = Pq := h; omega, by show q.v.path.length ≤ _; omega, by show (rfT bs (11 + c) n).length ≤ _; omega⟩
    have mv : m.v = decW bs c := by
      show ({ q.v with data := rfT bs (11 + c) n } : PV) = _
      rw [hqv]
      unfold decW
      simp only
      rw [hkk, Int.toNat_natCast]
      rfl
    have c5 := RJ.fin r4
    have start : ∀ {rv : Value × Heap}, (∃ (t75 : Int) (H_4 : Heap), Cr 75 [.pointer (some ⟨r, 0, none⟩)] X4 = some (.int .i64 t75, H_4) ∧
        (if t75 = 0 then
        (∃ (t80c0 : Int) (t80c1 : Int) (t80c2 : Int) (t80c3 : Int) (t80c4a : Option Addr) (t80c4n : Nat) (t80c4k : Nat) (t80c5a : Option Addr) (t80c5n : Nat) (t80c5k : Nat), ldAll H_4 Pq 0 [.int .i64 t80c0, .int .i64 t80c1, .int .i64 t80c2, .int .i64 t80c3, .slice t80c4a t80c4n t80c4k, .slice t80c5a t80c5n t80c5k] ∧
        (∃ (t81 : Bool) (H_5 : Heap), Cr 48 [.agg #[.int .i64 t80c0, .int .i64 t80c1, .int .i64 t80c2, .int .i64 t80c3, .slice t80c4a t80c4n t80c4k, .slice t80c5a t80c5n t80c5k]] H_4 = some (.bool t81, H_5) ∧
        (if t81 = true then
        (∃ (t84c0 : Int) (t84c1 : Int) (t84c2 : Int) (t84c3 : Int) (t84c4a : Option Addr) (t84c4n : Nat) (t84c4k : Nat) (t84c5a : Option Addr) (t84c5n : Nat) (t84c5k : Nat), ldAll H_5 Pq 0 [.int .i64 t84c0, .int .i64 t84c1, .int .i64 t84c2, .int .i64 t84c3, .slice t84c4a t84c4n t84c4k, .slice t84c5a t84c5n t84c5k] ∧
        (∃ (H_6 : Heap), stc H_5 R0 0 [.int .i64 t84c0, .int .i64 t84c1, .int .i64 t84c2, .int .i64 t84c3, .slice t84c4a t84c4n t84c4k, .slice t84c5a t84c5n t84c5k] = some H_6 ∧
        (∃ (r2c0_1 : Int) (r2c1_1 : Int) (r2c2_1 : Int) (r2c3_1 : Int) (r2c4a_1 : Option Addr) (r2c4n_1 : Nat) (r2c4k_1 : Nat) (r2c5a_1 : Option Addr) (r2c5n_1 : Nat) (r2c5k_1 : Nat), ldAll H_6 R0 0 [.int .i64 r2c0_1, .int .i64 r2c1_1, .int .i64 r2c2_1, .int .i64 r2c3_1, .slice r2c4a_1 r2c4n_1 r2c4k_1, .slice r2c5a_1 r2c5n_1 r2c5k_1] ∧
        (rv = (.tuple #[.agg #[.int .i64 r2c0_1, .int .i64 r2c1_1, .int .i64 r2c2_1, .int .i64 r2c3_1, .slice r2c4a_1 r2c4n_1 r2c4k_1, .slice r2c5a_1 r2c5n_1 r2c5k_1], .int .i64 0], H_6)))))
        else
        (∃ (t83c0 : Int) (t83c1 : Int) (t83c2 : Int) (t83c3 : Int) (t83c4a : Option Addr) (t83c4n : Nat) (t83c4k : Nat) (t83c5a : Option Addr) (t83c5n : Nat) (t83c5k : Nat), ldAll H_5 N0 0 [.int .i64 t83c0, .int .i64 t83c1, .int .i64 t83c2, .int .i64 t83c3, .slice t83c4a t83c4n t83c4k, .slice t83c5a t83c5n t83c5k] ∧
        (∃ (H_7 : Heap), stc H_5 R0 0 [.int .i64 t83c0, .int .i64 t83c1, .int .i64 t83c2, .int .i64 t83c3, .slice t83c4a t83c4n t83c4k, .slice t83c5a t83c5n t83c5k] = some H_7 ∧
        (∃ (r2c0_2 : Int) (r2c1_2 : Int) (r2c2_2 : Int) (r2c3_2 : Int) (r2c4a_2 : Option Addr) (r2c4n_2 : Nat) (r2c4k_2 : Nat) (r2c5a_2 : Option Addr) (r2c5n_2 : Nat) (r2c5k_2 : Nat), ldAll H_7 R0 0 [.int .i64 r2c0_2, .int .i64 r2c1_2, .int .i64 r2c2_2, .int .i64 r2c3_2, .slice r2c4a_2 r2c4n_2 r2c4k_2, .slice r2c5a_2 r2c5n_2 r2c5k_2] ∧
        (rv = (.tuple #[.agg #[.int .i64 r2c0_2, .int .i64 r2c1_2, .int .i64 r2c2_2, .int .i64 r2c3_2, .slice r2c4a_2 r2c4n_2 r2c4k_2, .slice r2c5a_2 r2c5n_2 r2c5k_2], .int .i64 3], H_7))))))))
        else
        (∃ (t78c0 : Int) (t78c1 : Int) (t78c2 : Int) (t78c3 : Int) (t78c4a : Option Addr) (t78c4n : Nat) (t78c4k : Nat) (t78c5a : Option Addr) (t78c5n : Nat) (t78c5k : Nat), ldAll H_4 N0 0 [.int .i64 t78c0, .int .i64 t78c1, .int .i64 t78c2, .int .i64 t78c3, .slice t78c4a t78c4n t78c4k, .slice t78c5a t78c5n t78c5k] ∧
        (∃ (H_8 : Heap), stc H_4 R0 0 [.int .i64 t78c0, .int .i64 t78c1, .int .i64 t78c2, .int .i64 t78c3, .slice t78c4a t78c4n t78c4k, .slice t78c5a t78c5n t78c5k] = some H_8 ∧
        (∃ (r2c0_3 : Int) (r2c1_3 : Int) (r2c2_3 : Int) (r2c3_3 : Int) (r2c4a_3 : Option Addr) (r2c4n_3 : Nat) (r2c4k_3 : Nat) (r2c5a_3 : Option Addr) (r2c5n_3 : Nat) (r2c5k_3 : Nat), ldAll H_8 R0 0 [.int .i64 r2c0_3, .int .i64 r2c1_3, .int .i64 r2c2_3, .int .i64 r2c3_3, .slice r2c4a_3 r2c4n_3 r2c4k_3, .slice r2c5a_3 r2c5n_3 r2c5k_3] ∧
        (rv = (.tuple #[.agg #[.int .i64 r2c0_3, .int .i64 r2c1_3, .int .i64 r2c2_3, .int .i64 r2c3_3, .slice r2c4a_3 r2c4n_3 r2c4k_3, .slice r2c5a_3 r2c5n_3 r2c5k_3], .int .i64 t75], H_8))))))) → L2 R0 0 N0 0 r 0 Pq 0 (n : Int) false H rv := by
      intro rv hv
      refine L2_step ?_
      rw [if_neg (by simp)]
      exact ⟨_, _, _, _, c3, X4, w4, hv⟩
    by_cases h2 : bs.length < 11 + c
    · -- (it was over before)
      rw [if_pos h2]
      rw [if_pos (by omega)] at c5
      obtain ⟨X, x0, x1, x2, x3⟩ := none_ (low := low) gN4 gR4 o1
      refine ⟨pk0, X, start ⟨_, _, c5, ?_⟩, rfl, (pk0_own 0 _).ok, k4.trans x3⟩
      rw [if_neg (by decide)]
      exact ⟨_, _, _, _, _, _, _, _, _, _, x0, X, x1, _, _, _, _, _, _, _, _, _, _, x2, rfl⟩
    rw [if_neg h2]
    have hk1 : 1 ≤ (n : Int) ∧ (n : Int) ≤ 24 := Classical.byContradiction fun x => h1 ⟨by omega, x⟩
    rw [if_neg (fun x => x hk1), Int.toNat_natCast]
    by_cases h5 : bs.length < 11 + c + n
    · rw [if_pos h5]
      rw [if_pos h5] at c5
      obtain ⟨X, x0, x1, x2, x3⟩ := none_ (low := low) gN4 gR4 o1
      refine ⟨pk0, X, start ⟨_, _, c5, ?_⟩, rfl, (pk0_own 0 _).ok, k4.trans x3⟩
      rw [if_neg (by decide)]
      exact ⟨_, _, _, _, _, _, _, _, _, _, x0, X, x1, _, _, _, _, _, _, _, _, _, _, x2, rfl⟩
    rw [if_neg h5]
    rw [if_neg h5] at c5
    by_cases h6 : 11 + c + n < bs.length
    · rw [if_pos h6]
      rw [if_pos h6] at c5
      obtain ⟨X, x0, x1, x2, x3⟩ := none_ (low := low) gN4 gR4 o1
      refine ⟨pk0, X, start ⟨_, _, c5, ?_⟩, rfl, (pk0_own 0 _).ok, k4.trans x3⟩
      rw [if_neg (by decide)]
      exact ⟨_, _, _, _, _, _, _, _, _, _, x0, X, x1, _, _, _, _, _, _, _, _, _, _, x2, rfl⟩
    rw [if_neg h6]
    rw [if_neg h6] at c5
    obtain ⟨H5, c6, g5⟩ := F48.ok mok
    rw [mv] at c6
    have n5 := g5.next
    have gP5 : H5.get Pq = .row m.cells true := by rw [g5.get _ (by omega)]; exact gP4
    have gR5 : H5.get R0 = .row pk0.cells true := by rw [g5.get _ (by omega)]; exact gR4
    have gN5 : H5.get N0 = .row pk0.cells true := by rw [g5.get _ (by omega)]; exact gN4
    have k5' : Keep low H H5 := k4.trans (g5.weak (by omega))
    by_cases hm : mayP (decW bs c)
    · rw [if_pos hm]
      let X6 := H5.set R0 (.row m.cells true)
      have w6 : stc H5 R0 0 m.cells = some X6 := rstAll gR5 rfl
      have g6 : X6.get R0 = .row m.cells true := by simp [X6]
      have m5 := mok.keep g5
      have m6 : PkOk X6 m := ⟨m5.path.chg (chgSet' _) fun b hb h => (qp b hb).2.1 h, m5.data.chg (chgSet' _) fun b hb h => by have := (w3.lt hb).1; have h : b = R0 := h; omega, m5.ps, m5.ds⟩
      refine ⟨m, X6, start ⟨_, _, c5, ?_⟩, mv, m6, k5'.trans (Keep.set _ o1)⟩
      rw [if_pos rfl]
      refine ⟨_, _, _, _, _, _, _, _, _, _, rldAll gP4, _, _, c6, ?_⟩
      rw [if_pos (by simpa using hm)]
      exact ⟨_, _, _, _, _, _, _, _, _, _, rldAll gP5, X6, w6, _, _, _, _, _, _, _, _, _, _, rldAll g6, rfl⟩
    · rw [if_neg hm]
      obtain ⟨X, x0, x1, x2, x3⟩ := none_ (low := low) gN5 gR5 o1
      refine ⟨pk0, X, start ⟨_, _, c5, ?_⟩, rfl, (pk0_own 0 _).ok, k5'.trans x3⟩
      rw [if_pos rfl]
      refine ⟨_, _, _, _, _, _, _, _, _, _, rldAll gP4, _, _, c6, ?_⟩
      rw [if_neg (by simpa using hm)]
      exact ⟨_, _, _, _, _, _, _, _, _, _, x0, X, x1, _, _, _, _, _, _, _, _, _, _, x2, rfl⟩
/-- The loop over the path's bytes. -/
theorem l1 {G : Heap} {w : PV} {a3 : Option Addr} {k3 : Nat} {ys : List Int} (hb : IsB bs) (hc : c ≤ 16) (hQ : ∀ b, Q b → b < low) (hs : Ints .u8 G a3 ys.length k3 ys) (hyl : ys.length ≤ 16) (hyb : IsB ys) (hs3 : ∀ b, In1 a3 b → b ≠ Pq) (o1 : low ≤ R0) (o2 : R0 < N0) (o3 : N0 < r) (o4 : r < Pq) (o5 : Pq < G.next)
    (hw : w = { decW bs c with data := [] }) (hy : ys = w.path) :
    ∀ (rest : List Int) (j : Nat) (H : Heap) (pa : Option Addr) (pk : Nat), ys.drop j = rest → j + rest.length = ys.length → Chg (fun b => b = Pq) G H → H.get Pq = .row (rowP w.f w.t w.n w.l pa j pk none 0 0) true → OwnI .i64 G.next H pa j pk (ys.take j) → RJ Q H r bs (10 + c) → H.get R0 = .row pk0.cells true → H.get N0 = .row pk0.cells true →
    ∃ m H', L1 R0 0 N0 0 r 0 Pq 0 a3 ys.length k3 (ys.length : Int) (j : Int) H (.tuple #[m.agg, .int .i64 (decT bs c).2], H') ∧ m.v = (decT bs c).1 ∧ PkOk H' m ∧ Keep low H H' := by
  intro rest
  induction rest with
  | nil =>
    intro j H pa pk hd hj g gP o rr gR gN
    simp only [List.length_nil] at hj
    have e : j = ys.length := by omega
    subst e
    rw [List.take_length] at o
    have hn := g.next
    obtain ⟨H1, c1, r1, f1⟩ := RJ.u8 hb rr
    rw [show 10 + c + 1 = 11 + c by omega] at r1
    have n1 := f1.next
    let q : Pk := ⟨w, pa, pk, none, 0⟩
    have hwd : w.data = [] := by rw [hw]
    have gq : H.get Pq = .row q.cells true := by
      show _ = AObj.row [.int .i64 w.f, .int .i64 w.t, .int .i64 w.n, .int .i64 w.l, .slice pa w.path.length pk, .slice none w.data.length 0] true
      rw [← hy, hwd]; exact gP
    have gq1 : H1.get Pq = .row q.cells true := by rw [f1.get _ (by omega) (fun h => by have h : Pq = r := h; omega)]; exact gq
    have gR1 : H1.get R0 = .row pk0.cells true := by rw [f1.get _ (by omega) (fun h => by have h : R0 = r := h; omega)]; exact gR
    have gN1 : H1.get N0 = .row pk0.cells true := by rw [f1.get _ (by omega) (fun h => by have h : N0 = r := h; omega)]; exact gN
    have oq1 : Ints .i64 H1 q.pa q.v.path.length q.pk q.v.path := by
      show Ints .i64 H1 pa w.path.length pk w.path
      rw [← hy]
      exact o.sl.chg f1 fun b hb h => by have := (o.lt hb).1; have h : b = r := h; omega
    obtain ⟨m, H', z, m1, m2, m3⟩ := l2 (q := q) (low := low) hb hc hQ r1 gR1 gN1 gq1 o1 o2 o3 o4 (by omega) hw oq1 (fun b hb => by have := (o.lt hb).1; omega)
    refine ⟨m, H', L1_step ?_, m1, m2, (f1.keep (by omega) fun b _ h => by have h : b = r := h; omega).trans m3⟩
    rw [if_neg (by omega)]
    refine ⟨_, _, c1, _, r1.err, ?_⟩
    have hk0 := (stV_one hb (10 + c)).2
    unfold rfE
    by_cases hl : 11 + c ≤ bs.length
    · rw [if_pos hl, if_pos rfl]
      by_cases hk : bs.getD (10 + c) 0 < 1
      · rw [if_pos hk]
        rw [decide_eq_true ⟨hl, by omega⟩] at z
        exact z
      · rw [if_neg hk]
        rw [show decide (11 + c ≤ bs.length ∧ ¬(1 ≤ bs.getD (10 + c) 0 ∧ bs.getD (10 + c) 0 ≤ 24)) = decide (bs.getD (10 + c) 0 > 24) from decide_eq_decide.2 (by omega)] at z
        exact z
    · rw [if_neg hl, if_neg (by decide)]
      rw [decide_eq_false (by omega)] at z
      exact z
  | cons x rest ih =>
    intro j H pa pk hd hj g gP o rr gR gN
    simp only [List.length_cons] at hj
    have hx := drop_get hd
    have hn := g.next
    have s := hs.chg g fun b hb h => hs3 b hb h
    obtain ⟨b, o3', hb3⟩ := s.at (by omega)
    rw [hb3] at s
    have hxb := hyb.get hx
    have ew : IntKind.wrap .i64 x = x := i64 (by omega) (by omega)
    obtain ⟨H1, e1, n1, g1, k1⟩ := one H [.int .i64 x]
    have s1 : Ints .i64 H1 (some ⟨H.next, 0, none⟩) 1 (UNK 1) [x] := Sl.ofRow g1 (by omega)
    obtain ⟨a4, k4, H4, c4, o4', g4⟩ := OwnI.app 8 (o.keep k1) s1 (by omega) (by omega) (by omega)
    have et : ys.take (j + 1) = ys.take j ++ [x] := by rw [List.take_add_one, hx]; rfl
    rw [← et] at o4'
    have n4 := g4.next
    have kk4 : Keep G.next H H4 := (k1.weak hn).trans g4
    have gP4 : H4.get Pq = .row (rowP w.f w.t w.n w.l pa j pk none 0 0) true := by rw [kk4.get _ o5]; exact gP
    let X5 := H4.set Pq (.row (rowP w.f w.t w.n w.l a4 (j + 1) k4 none 0 0) true)
    have w5 : stc H4 Pq 4 [.slice a4 (j + 1) k4] = some X5 := rstc' gP4 (i := 4) (by simp) _
    have gX : Chg (fun b => G.next ≤ b ∨ b = Pq) H X5 := (kk4.chg.weak (T := fun b => G.next ≤ b ∨ b = Pq) fun b _ h => .inl h).trans (chgSet' _) fun _ _ h => .inr h
    obtain ⟨m, H', z, m1, m2, m3⟩ := ih (j + 1) X5 a4 k4 (drop_next hd) (by omega) (g.trans gX fun b hb h => by rcases h with h | h; omega; exact h) (by simp [X5]) (o4'.chg (chgSet' _) fun b hb h => by have := (o4'.lt hb).1; have h : b = Pq := h; omega)
      (rr.chg gX (fun h => by rcases h with h | h <;> omega) fun b hb h => by have := hQ b hb; rcases h with h | h <;> omega)
      (by rw [gX.get R0 (by omega) fun h => by rcases h with h | h <;> omega]; exact gR) (by rw [gX.get N0 (by omega) fun h => by rcases h with h | h <;> omega]; exact gN)
    refine ⟨m, H', L1_step ?_, m1, m2, (gX.keep (by omega) fun b _ h => by rcases h with h | h <;> omega).trans m3⟩
    rw [if_pos (by omega)]
    refine ⟨b, o3', hb3, by omega, by omega, x, Ints.get s hx, _, _, _, rldc' gP 4, H1, by rw [ew]; exact e1, a4, j + 1, k4, H4, c4, X5, w5, ?_⟩
    rw [i64 (by omega) (by omega), ← hb3]; exact_mod_cast z
theorem ok {H : Heap} {a0 : Option Addr} {n0 k0 : Nat} (hs : By H a0 n0 k0 bs) (hb : IsB bs) (hn : n0 ≤ 1099511627776) :
    ∃ m H', Cr 50 [.slice a0 n0 k0] H = some (.tuple #[m.agg, .int .i64 (decV bs).2], H') ∧ m.v = (decV bs).1 ∧ PkOk H' m ∧ Keep H.next H H' := by
  obtain ⟨H1, H2, e1, e2, n1, n2, g1, g2, g3, k1, k2⟩ := two H pk0.cells pk0.cells
  let X3 := H2.set H1.next (.row pk0.cells true)
  have w3 : stc H2 H1.next 0 pk0.cells = some X3 := rstAll g3 rfl
  have kX3 : Keep H.next H X3 := k2.trans (Keep.set _ (by omega))
  have gN3 : X3.get H1.next = .row pk0.cells true := by simp [X3]
  have gR3 : X3.get H.next = .row pk0.cells true := by
    show (H2.set _ _).get _ = _
    rw [Heap.get_set_ne _ _ _ _ (by omega)]; exact g2
  have nX : X3.next = H2.next := rfl
  have r4 := RFm.mk1 (Q := fun b => b < H.next) (hs.keep kX3) hn fun b hb => Sl.lt hs hb
  obtain ⟨H4, e4, n4, g4, k4⟩ := one X3 [.slice a0 n0 k0, .int .i64 0]
  rw [← e4] at r4
  have r4 : RJ (fun b => b < H.next) H4 X3.next bs 0 := by
    have e1 : rfX bs 0 = bs := by unfold rfX; rw [if_pos (Nat.zero_le _), List.drop_zero]
    have e2 : rfE bs 0 = 0 := by unfold rfE; rw [if_pos (Nat.zero_le _)]
    show RFm _ H4 X3.next (rfX bs 0) (rfE bs 0)
    rw [e1, e2]; exact r4
  obtain ⟨H5, c5, r5, f5⟩ := RJ.u8 hb r4
  obtain ⟨H6, c6, r6, f6⟩ := RJ.u8 hb r5
  obtain ⟨H7, c7, r7, f7⟩ := RJ.num hb r6 6
  obtain ⟨H8, c8, r8, f8⟩ := RJ.u8 hb r7
  have f48 : Chg (fun b => b = X3.next) H4 H8 := ((f5.trans f6 fun _ _ h => h).trans f7 fun _ _ h => h).trans f8 fun _ _ h => h
  have n8 := f48.next
  obtain ⟨H9, e9, n9, g9, k9⟩ := one H8 pk0.cells
  obtain ⟨c, hc⟩ : ∃ c, (bs.getD 9 0).toNat = c := ⟨_, rfl⟩
  let w : PV := ⟨bs.getD 0 0, bs.getD 1 0, stV bs 2 6, bs.getD 8 0, stT bs 10 c, []⟩
  have hV : 0 ≤ stV bs 2 6 ∧ stV bs 2 6 < 2 ^ 48 := by
    unfold stV
    split
    · rename_i h
      exact beV_range (k := 6) (by simp; omega) (by omega)
    · decide
  have ew : IntKind.wrap .i64 (stV bs (0 + 1 + 1) 6) = stV bs 2 6 := i64 (by have := hV.1; show _ ≤ stV bs 2 6; omega) (by have := hV.2; show stV bs 2 6 ≤ _; omega)
  let X10 := H9.set H8.next (.row (rowP w.f w.t w.n w.l none 0 0 none 0 0) true)
  have w10 : stc H9 H8.next 0 (rowP w.f w.t w.n w.l none 0 0 none 0 0) = some X10 := rstAll g9 rfl
  have g10 : X10.get H8.next = .row (rowP w.f w.t w.n w.l none 0 0 none 0 0) true := by simp [X10]
  have k10 : Keep H8.next H8 X10 := k9.trans (Keep.set _ (Nat.le_refl _))
  have n10 : X10.next = H8.next + 1 := n9
  have r10 : RJ (fun b => b < H.next) X10 X3.next bs (0 + 1 + 1 + 6 + 1) := r8.new k10
  obtain ⟨H11, c11, r11, f11⟩ := RJ.u8 hb r10
  have n11 := f11.next
  have r11 : RJ (fun b => b < H.next) H11 X3.next bs 10 := r11
  have get8 : ∀ b, b < X3.next → H8.get b = X3.get b := fun b hb => by
    rw [f48.get b (by omega) (fun h => by have h : b = X3.next := h; omega), k4.get b hb]
  have get11 : ∀ b, b < X3.next → H11.get b = X3.get b := fun b hb => by
    rw [f11.get b (by omega) (fun h => by have h : b = X3.next := h; omega), k10.get b (by omega), get8 b hb]
  have gR11 : H11.get H.next = .row pk0.cells true := by rw [get11 _ (by omega)]; exact gR3
  have gN11 : H11.get H1.next = .row pk0.cells true := by rw [get11 _ (by omega)]; exact gN3
  have gP11 : H11.get H8.next = .row (rowP w.f w.t w.n w.l none 0 0 none 0 0) true := by rw [f11.get _ (by omega) (fun h => by have h : H8.next = X3.next := h; omega)]; exact g10
  have k11 : Keep H.next H H11 := ⟨by omega, fun b hb => by rw [get11 b (by omega), kX3.get b hb]⟩
  have h9 := (stV_one hb 9).2
  have go : ∀ rv, L0 H.next 0 H1.next 0 X3.next 0 H8.next 0 (bs.getD 9 0) (decide (bs.getD 9 0 > 16)) H11 rv → Cr 50 [.slice a0 n0 k0] H = some rv := by
    intro rv hv
    refine call ⟨_, e1, _, e2, X3, w3, H4, e4, _, _, c5, _, _, c6, _, _, c7, _, _, c8, _, e9, X10, ?_, _, _, c11, _, r11.err, ?_⟩
    · rw [ew]; exact w10
    · unfold rfE
      by_cases hl : 10 ≤ bs.length
      · rw [if_pos hl, if_pos rfl]; exact hv
      · rw [if_neg hl, if_neg (by decide)]
        have : bs.getD 9 0 = 0 := by rw [List.getD, List.getElem?_eq_none (by omega)]; rfl
        rw [decide_eq_false (by omega)] at hv
        exact hv
  rw [decV_eq, hc]
  by_cases h16 : bs.getD 9 0 > 16
  · rw [if_pos h16]
    obtain ⟨X, x0, x1, x2, x3⟩ := none_ (low := H.next) gN11 gR11 (Nat.le_refl _)
    refine ⟨pk0, X, go _ ?_, rfl, (pk0_own 0 _).ok, k11.trans x3⟩
    rw [decide_eq_true h16]
    refine L0_step ?_
    rw [if_pos rfl]
    exact ⟨_, _, _, _, _, _, _, _, _, _, x0, X, x1, _, _, _, _, _, _, _, _, _, _, x2, rfl⟩
  · rw [if_neg h16]
    have hcc : bs.getD 9 0 = (c : Int) := by omega
    obtain ⟨a12, k12, H12, c12, o12, r12, f12⟩ := RJ.raw r11 c
    have n12 := f12.next
    have hyl : (rfT bs 10 c).length ≤ 16 := by unfold rfT; split <;> simp; omega
    have hyb : IsB (rfT bs 10 c) := by
      unfold rfT; split
      · exact fun x hx => hb x (List.mem_of_mem_drop (List.mem_of_mem_take hx))
      · exact fun x hx => by cases hx
    have gR12 : H12.get H.next = .row pk0.cells true := by rw [f12.get _ (by omega) (fun h => by have h : H.next = X3.next := h; omega)]; exact gR11
    have gN12 : H12.get H1.next = .row pk0.cells true := by rw [f12.get _ (by omega) (fun h => by have h : H1.next = X3.next := h; omega)]; exact gN11
    have gP12 : H12.get H8.next = .row (rowP w.f w.t w.n w.l none 0 0 none 0 0) true := by rw [f12.get _ (by omega) (fun h => by have h : H8.next = X3.next := h; omega)]; exact gP11
    obtain ⟨m, H', z, m1, m2, m3⟩ := l1 (G := H12) (w := w) (c := c) (low := H.next) hb (by omega) (fun b h => h) o12.sl hyl hyb (fun b hb => by have := (o12.lt hb).1; omega) (Nat.le_refl _) (by omega) (by omega) (by omega) (by omega) rfl rfl (rfT bs 10 c) 0 H12 none 0 rfl (by omega) (Chg.refl _) gP12 OwnI.nil r12 gR12 gN12
    refine ⟨m, H', go _ ?_, m1, m2, (k11.trans (f12.keep (by omega) fun b _ h => by have h : b = X3.next := h; omega)).trans m3⟩
    rw [decide_eq_false h16, hcc]
    refine L0_step ?_
    rw [if_neg (by simp)]
    exact ⟨_, _, _, _, c12, z⟩
end F50
theorem Keep.th {H H1 H2 : Heap} (h : Keep H.next H H1) (k : Keep H1.next H1 H2) : Keep H.next H H2 := h.trans (k.weak h.next)
theorem xor8_b {x y : Int} (hx : 0 ≤ x ∧ x < 256) (hy : 0 ≤ y ∧ y < 256) : 0 ≤ ixor .u8 x y ∧ ixor .u8 x y < 256 := by
  have h1 := nb_ofInt (n := 8) hx.1 (by have := hx.2; show _ < (2 : Int) ^ 8; omega)
  have h2 := nb_ofInt (n := 8) hy.1 (by have := hy.2; show _ < (2 : Int) ^ 8; omega)
  rw [← h1, ← h2]
  have := ixor_nb (k := .u8) rfl (BitVec.ofInt 8 x) (BitVec.ofInt 8 y)
  rw [show ixor .u8 (nb (BitVec.ofInt 8 x)) (nb (BitVec.ofInt 8 y)) = nb (BitVec.ofInt 8 x ^^^ BitVec.ofInt 8 y) from this]
  exact ⟨Int.natCast_nonneg _, by have := nb_lt (BitVec.ofInt 8 x ^^^ BitVec.ofInt 8 y); exact_mod_cast this⟩
theorem isB_set {xs : List Int} (h : IsB xs) {i : Nat} {v : Int} (hv : 0 ≤ v ∧ v < 256) : IsB (xs.set i v) := fun y hy => by
  rcases List.mem_or_eq_of_mem_set hy with hy | hy
  · exact h y hy
  · rw [hy]; exact hv
theorem pv0_data : IsB pv0.data := fun x hx => by cases hx
theorem upV_data {v : PV} (h : IsB v.data) (me : Int) : IsB (upV v me).1.data := by
  rw [upV_eq]
  repeat' split
  all_goals first | exact pv0_data | exact h
theorem downV_data {v : PV} (h : IsB v.data) (me : Int) : IsB (downV v me).1.data := by
  rw [downV_eq]
  repeat' split
  all_goals first | exact pv0_data | exact h
namespace F13
theorem both {H : Heap} {s : Option Addr} {sn sk : Nat} {ys : List Int} (hs : By H s sn sk ys) (hb : IsB ys) (hl : sn ≤ 1099511627776) : ∃ (p : Pk) (er : Int) (H1 H3 : Heap) (q : Pk) (H4 H6 H7 : Heap), Cr 43 [.slice s sn sk] H = some (.tuple #[p.agg, .int .i64 er], H1) ∧ stc (H1.push (.row pk0.cells true)) H1.next 0 p.cells = some H3 ∧ Cr 50 [.slice s sn sk] H3 = some (.tuple #[q.agg, .int .i64 er], H4) ∧ stc (H4.push (.row pk0.cells true)) H4.next 0 q.cells = some H6 ∧ ldAll H6 H1.next 0 p.cells ∧ ldAll H6 H4.next 0 q.cells ∧ Cr 44 [p.agg, q.agg] H6 = some (.bool true, H7) ∧ Keep H.next H H7 := by
  obtain ⟨p, H1, c1, v1, ok1, k1⟩ := F43.ok hs hb hl
  obtain ⟨H3, s3, g3, k3, n3⟩ := fill H1 pk0.cells p.cells rfl
  have k13 := k1.th k3
  obtain ⟨q, H4, c4, v4, ok4, k4⟩ := F50.ok (hs.keep k13) hb hl
  obtain ⟨H6, s6, g6, k6, n6⟩ := fill H4 pk0.cells q.cells rfl
  have k46 := k4.th k6
  have n4 := k4.next
  have g36 : H6.get H1.next = .row p.cells true := by rw [k46.get _ (by omega)]; exact g3
  have bp : IsB p.v.data := by rw [v1]; exact decV_data hb
  have bq : IsB q.v.data := by rw [v4]; exact decV_data hb
  obtain ⟨H7, c7, k7⟩ := F44.ok ((ok1.keep k3).keep k46) (ok4.keep k6) bp bq
  rw [v1, v4, decide_eq_true rfl] at c7
  exact ⟨p, _, H1, H3, q, H4, H6, H7, c1, s3, c4, s6, rldAll g36, rldAll g6, c7, (k13.th k46).th k7⟩
theorem l3 {H : Heap} {s a : Option Addr} {sn sk n k : Nat} {xs ys : List Int} (hs : By H s sn sk ys) (ha : By H a n k xs) (hx : IsB xs) (hy : IsB ys) (hxl : n ≤ 1000000) (hyl : sn ≤ 1000000) : ∃ H', L3 s sn sk a n k H (.bool true, H') := by
  obtain ⟨p, er, H1, H3, q, H4, H6, H7, c1, s3, c4, s6, l1, l2, c7, k7⟩ := both ha hx (by omega)
  obtain ⟨p', er', H1', H3', q', H4', H6', H7', c1', s3', c4', s6', l1', l2', c7', k7'⟩ := both (hs.keep k7) hy (by omega)
  obtain ⟨H8, c8, k8⟩ := F20.ok H7'
  refine ⟨H8, L3_step (L4_step ?_)⟩
  rw [if_pos (by omega)]
  refine ⟨_, _, _, rfl, _, _, _, _, _, _, _, _, _, _, _, _, c1, _, rfl, H3, s3, _, _, _, _, _, _, _, _, _, _, _, _, c4, _, rfl, H6, s6, _, _, _, _, _, _, _, _, _, _, l1, _, _, _, _, _, _, _, _, _, _, l2, _, _, c7, ?_⟩
  rw [if_pos rfl]
  refine L5_step ?_
  rw [if_neg (by simp)]
  refine L4_step ?_
  rw [show IntKind.wrap .i64 (0 + 1) = 1 from rfl, if_pos (by omega)]
  refine ⟨_, _, _, rfl, _, _, _, _, _, _, _, _, _, _, _, _, c1', _, rfl, H3', s3', _, _, _, _, _, _, _, _, _, _, _, _, c4', _, rfl, H6', s6', _, _, _, _, _, _, _, _, _, _, l1', _, _, _, _, _, _, _, _, _, _, l2', _, _, c7', ?_⟩
  rw [if_pos rfl]
  refine L5_step ?_
  rw [if_neg (by simp)]
  refine L4_step ?_
  rw [show IntKind.wrap .i64 (1 + 1) = 2 from rfl, if_neg (by omega)]
  exact ⟨_, _, c8, rfl⟩
theorem l2 {G s a c : Option Addr} {GH : Heap} {sn sk n k cn ck : Nat} {ys ps : List Int} {x cut : Int} (hs : By GH s sn sk ys) (hp : Ints .i64 GH c cn ck ps) (hy : IsB ys) (hx : 0 ≤ x ∧ x < 256) (hn0 : 0 < n) (hn : n ≤ 1000000) (hsn : sn ≤ 1000000) (hcn : cn ≤ 140737488355328) : ∀ (rest : List Int) (j : Nat) (xs : List Int) (H : Heap), ps.drop j = rest → j + rest.length = cn → Keep GH.next GH H → OwnI .u8 GH.next H a n k xs → IsB xs →
    ∃ H', L2 x cut s sn sk a n k (n : Int) c cn ck (cn : Int) (j : Int) H (.bool true, H') := by
  have hun : IntKind.wrap .u64 (n : Int) = (n : Int) := u64 (by omega) (by omega)
  intro rest
  induction rest with
  | nil =>
    intro j xs H hd hj hk ho hb
    simp only [List.length_nil] at hj
    have hl := ho.ln
    obtain ⟨q, eq, hq⟩ := modN cut n (by omega) (by omega)
    obtain ⟨a', k', p', o'⟩ := Ints.part (show Ints .u8 H a n k xs from ho.sl) none (some ((n - q : Nat) : Int)) 0 (n - q) (.inl ⟨rfl, rfl⟩) (.inr rfl) (by omega) (by omega)
    simp only [Nat.sub_zero, List.drop_zero] at p' o'
    obtain ⟨H', z⟩ := l3 (hs.keep hk) (show By H a' (n - q) k' (xs.take (n - q)) from o') (fun y hy => hb y (List.mem_of_mem_take hy)) hy (by omega) hsn
    refine ⟨H', L2_step ?_⟩
    rw [if_neg (by omega), hun, eq, i64 (by omega) (by omega), show ((n : Int) - (q : Int)) = ((n - q : Nat) : Int) by omega]
    exact ⟨by omega, _, _, _, p', z⟩
  | cons q rest ih =>
    intro j xs H hd hj hk ho hb
    simp only [List.length_cons] at hj
    have hl := ho.ln
    have hx' := drop_get hd
    have sp := hp.keep hk
    obtain ⟨b, o, rfl⟩ := hp.at (by omega)
    by_cases h3 : (j : Int) < 3
    · obtain ⟨e, em, hm⟩ := modN q (n : Int) (by omega) (by omega)
      obtain ⟨b1, o1, rfl⟩ := ho.sl.at (by omega)
      have hg : xs[e]? = some (xs.getD e 0) := getD_some (by omega)
      have ld := Ints.get ho.sl hg
      obtain ⟨H1, c1, o2, g1, n1⟩ := OwnI.putc' ho (i := e) (by omega) (ixor .u8 (xs.getD e 0) x)
      obtain ⟨H', z⟩ := ih (j + 1) _ H1 (drop_next hd) (by omega) (hk.trans g1) o2 (isB_set hb (xor8_b (hb.get hg) hx))
      refine ⟨H', L2_step ?_⟩
      rw [if_pos (by omega)]
      refine ⟨b, o, rfl, by omega, by omega, q, Ints.get sp hx', ?_⟩
      rw [if_pos h3, hun, em]
      refine ⟨by omega, b1, o1, rfl, by omega, by omega, _, ld, by omega, by omega, H1, c1, ?_⟩
      rw [i64 (by omega) (by omega)]
      exact_mod_cast z
    · obtain ⟨H', z⟩ := ih (j + 1) xs H (drop_next hd) (by omega) hk ho hb
      refine ⟨H', L2_step ?_⟩
      rw [if_pos (by omega)]
      refine ⟨b, o, rfl, by omega, by omega, q, Ints.get sp hx', ?_⟩
      rw [if_neg h3, i64 (by omega) (by omega)]
      exact_mod_cast z
theorem l1 {H : Heap} {s c a : Option Addr} {sn sk cn ck n k : Nat} {ys ps bs : List Int} {x cut : Int} (hs : By H s sn sk ys) (hp : Ints .i64 H c cn ck ps) (ha : By H a n k bs) (hb : IsB bs) (hy : IsB ys) (hx : 0 ≤ x ∧ x < 256) (hn : n ≤ 1000000) (hsn : sn ≤ 1000000) (hcn : cn ≤ 140737488355328) :
    ∃ H', L1 c cn ck x cut s sn sk a n k false H (.bool true, H') := by
  obtain ⟨H1, e1, n1, g1, k1⟩ := one H []
  have o1 : OwnI .u8 H.next H1 (some ⟨H.next, 0, none⟩) 0 (UNK 1) [] := by rw [e1]; exact OwnI.new H []
  have hbl := ha.ln
  obtain ⟨a2, k2, H2, c2, o2, kp2⟩ := OwnI.app 1 o1 (ha.keep k1) (by omega) (by omega) (by omega)
  simp only [Nat.zero_add, List.nil_append] at c2 o2
  have k02 := k1.trans kp2
  by_cases h0 : 0 < n
  · obtain ⟨H', z⟩ := l2 (G := none) (cut := cut) hs hp hy hx h0 hn hsn hcn ps 0 bs H2 rfl (by have := hp.ln; omega) k02 o2 hb
    refine ⟨H', L1_step ?_⟩
    rw [if_neg (by simp)]
    refine ⟨_, e1, _, _, _, _, c2, ?_⟩
    rw [if_pos (by omega)]
    exact z
  · obtain ⟨H', z⟩ := l3 (hs.keep k02) (show By H2 a2 n k2 bs from o2.sl) hb hy hn hsn
    refine ⟨H', L1_step ?_⟩
    rw [if_neg (by simp)]
    refine ⟨_, e1, _, _, _, _, c2, ?_⟩
    rw [if_neg (by omega)]
    exact z
theorem l0 {K0 : Heap} {P Z : Nat} {p q : Pk} {me x cut : Int} {c pt s : Option Addr} {cn ck pn pk sn sk : Nat} {ps path ys : List Int} (hP : P < K0.next) (hZ : Z < K0.next) (gP : K0.get P = .row p.cells true) (gZ : K0.get Z = .row q.cells true) (hp : PkOk K0 p) (hq : PkOk K0 q) (bp : IsB p.v.data) (bq : IsB q.v.data)
    (hpt : Ints .i64 K0 pt pn pk path) (hc : Ints .i64 K0 c cn ck ps) (hs : By K0 s sn sk ys) (hy : IsB ys) (hx : 0 ≤ x ∧ x < 256) (hl : p.v.path.length ≤ 60 ∧ p.v.data.length ≤ 200) (hpn : pn ≤ 60) (hsn : sn ≤ 200) (hcn : cn ≤ 140737488355328) :
    ∃ H', L0 me pt pn pk c cn ck x cut s sn sk P 0 Z 0 false K0 (.bool true, H') := by
  obtain ⟨a1, k1, K1, c1, o1, s1⟩ := F41.ok hp bp
  obtain ⟨a2, k2, K2, c2, o2, s2⟩ := F45.ok (hp.keep s1) bp
  have t2 := s1.th s2
  obtain ⟨m3, K3, c3, v3, w3, s3⟩ := F24.ok (hp.keep t2) me
  have t3 := t2.th s3
  obtain ⟨K4, f4, g4, s4, n4⟩ := fill K3 pk0.cells m3.cells rfl
  have t4 := t3.th s4
  obtain ⟨m5, K5, c5, v5, w5, s5⟩ := F46.ok (hp.keep t4) me
  have t5 := t4.th s5
  obtain ⟨K6, f6, g6, s6, n6⟩ := fill K5 pk0.cells m5.cells rfl
  have t6 := t5.th s6
  obtain ⟨m7, K7, c7, v7, w7, s7⟩ := F26.ok (hp.keep t6) me
  have t7 := t6.th s7
  obtain ⟨K8, f8, g8, s8, n8⟩ := fill K7 pk0.cells m7.cells rfl
  have t8 := t7.th s8
  obtain ⟨m9, K9, c9, v9, w9, s9⟩ := F47.ok (hp.keep t8) me
  have t9 := t8.th s9
  obtain ⟨K10, f10, g10, s10, n10⟩ := fill K9 pk0.cells m9.cells rfl
  have t10 := t9.th s10
  obtain ⟨K11, c11, s11⟩ := F28.ok (hp.keep t10)
  have t11 := t10.th s11
  obtain ⟨K12, c12, s12⟩ := F48.ok (hp.keep t11)
  have t12 := t11.th s12
  obtain ⟨K13, c13, s13⟩ := F42.ok (hp.keep t12) (hq.keep t12)
  have t13 := t12.th s13
  obtain ⟨K14, c14, s14⟩ := F44.ok (hp.keep t13) (hq.keep t13) bp bq
  have t14 := t13.th s14
  have q4 := ((((((((s5.th s6).th s7).th s8).th s9).th s10).th s11).th s12).th s13).th s14
  have q6 := ((((((s7.th s8).th s9).th s10).th s11).th s12).th s13).th s14
  have q8 := ((((s9.th s10).th s11).th s12).th s13).th s14
  have q10 := ((s11.th s12).th s13).th s14
  have bc : IsB m3.v.data := by rw [v3]; exact upV_data bp me
  have bd : IsB m5.v.data := by rw [v5]; exact upV_data bp me
  have bu : IsB m7.v.data := by rw [v7]; exact downV_data bp me
  have bv : IsB m9.v.data := by rw [v9]; exact downV_data bp me
  have p3 := (w3.ok.keep s4).keep q4
  have p5 := (w5.keep s6).keep q6
  have p7 := (w7.ok.keep s8).keep q8
  have p9 := (w9.keep s10).keep q10
  obtain ⟨K15, c15, s15⟩ := F44.ok p3 p5 bc bd
  rw [v3, v5, decide_eq_true rfl] at c15
  have t15 := t14.th s15
  obtain ⟨K16, c16, s16⟩ := F44.ok (p7.keep s15) (p9.keep s15) bu bv
  rw [v7, v9, decide_eq_true rfl] at c16
  have t16 := t15.th s16
  obtain ⟨a17, k17, K17, c17, o17, s17⟩ := F21.ok (hpt.keep t16) (by omega)
  have t17 := t16.th s17
  obtain ⟨a18, k18, K18, c18, o18, s18⟩ := F49.ok (hpt.keep t17) (by omega)
  have t18 := t17.th s18
  have lb : (backL path).length ≤ 60 := by have := hpt.ln; unfold backL; split <;> simp; omega
  have c19 := F25.ok (Sl.keep o17.sl s18) o18.sl (by omega)
  rw [decide_eq_true rfl] at c19
  have gp : ∀ {X}, Keep K0.next K0 X → X.get P = .row p.cells true := fun k => by rw [k.get _ hP]; exact gP
  have gz : ∀ {X}, Keep K0.next K0 X → X.get Z = .row q.cells true := fun k => by rw [k.get _ hZ]; exact gZ
  have gc : K14.get K3.next = .row m3.cells true := by rw [q4.get _ (by omega)]; exact g4
  have gd : K14.get K5.next = .row m5.cells true := by rw [q6.get _ (by omega)]; exact g6
  have gu : K15.get K7.next = .row m7.cells true := by rw [(q8.th s15).get _ (by omega)]; exact g8
  have gv : K15.get K9.next = .row m9.cells true := by rw [(q10.th s15).get _ (by omega)]; exact g10
  have bE : IsB (if mayP p.v then encV p.v else []) := by
    split
    · rename_i h; exact encV_isB h bp
    · exact fun x hx => by cases hx
  have lE : (if mayP p.v then encV p.v else []).length ≤ 300 := by
    split
    · rw [encV_len]; omega
    · simp
  have q1 := ((((((((((((s2.th s3).th s4).th s5).th s6).th s7).th s8).th s9).th s10).th s11).th s12).th s13).th s14)
  have q2 := (((((((((((s3.th s4).th s5).th s6).th s7).th s8).th s9).th s10).th s11).th s12).th s13).th s14)
  have sa := Sl.str (Sl.keep o1.sl q1)
  have sb := Sl.str (Sl.keep o2.sl q2)
  obtain ⟨H', z⟩ := l1 (x := x) (cut := cut) (hs.keep t18) (hc.keep t18) (show By K18 a2 _ k2 _ from Sl.keep o2.sl (q2.th (((s15.th s16).th s17).th s18))) bE hy hx (by omega) (by omega) hcn
  refine ⟨H', L0_step ?_⟩
  rw [if_neg (by simp)]
  refine ⟨_, _, _, _, _, _, _, _, _, _, rldAll gP, _, _, _, _, _, c1, _, _, _, _, _, _, _, _, _, _, rldAll (gp s1), _, _, _, _, _, c2, _, _, _, _, _, _, _, _, _, _, rldAll (gp t2), _, _, _, _, _, _, _, _, _, _, _, _, c3, _, rfl, K4, f4,
    _, _, _, _, _, _, _, _, _, _, rldAll (gp t4), _, _, _, _, _, _, _, _, _, _, _, _, c5, _, rfl, K6, f6, _, _, _, _, _, _, _, _, _, _, rldAll (gp t6), _, _, _, _, _, _, _, _, _, _, _, _, _, c7, _, rfl, K8, f8,
    _, _, _, _, _, _, _, _, _, _, rldAll (gp t8), _, _, _, _, _, _, _, _, _, _, _, _, _, c9, _, rfl, K10, f10, _, _, _, _, _, _, _, _, _, _, rldAll (gp t10), _, _, c11, _, _, _, _, _, _, _, _, _, _, rldAll (gp t10), _, _, c12, ?_⟩
  rw [if_pos (by simp)]
  refine ⟨_, _, _, _, _, _, _, _, _, _, rldAll (gp t12), _, _, _, _, _, _, _, _, _, _, rldAll (gz t12), _, _, c13, _, _, _, _, _, _, _, _, _, _, rldAll (gp t12), _, _, _, _, _, _, _, _, _, _, rldAll (gz t12), _, _, c14, ?_⟩
  rw [if_pos (by simp)]
  refine ⟨_, sa, _, sb, ?_⟩
  rw [if_pos rfl, if_pos rfl]
  refine ⟨_, _, _, _, _, _, _, _, _, _, rldAll gc, _, _, _, _, _, _, _, _, _, _, rldAll gd, _, _, c15, ?_⟩
  rw [if_pos rfl, if_pos rfl]
  refine ⟨_, _, _, _, _, _, _, _, _, _, rldAll gu, _, _, _, _, _, _, _, _, _, _, rldAll gv, _, _, c16, ?_⟩
  rw [if_pos rfl, if_pos rfl, if_pos rfl]
  refine ⟨_, _, _, _, c17, _, _, _, _, c18, _, _, c19, rldAll (gp t11), rldAll (gp t13), rldAll (gz t13), ?_⟩
  exact z
theorem ok {H : Heap} {p q : Pk} {me x cut : Int} {c pt s : Option Addr} {cn ck pn pk sn sk : Nat} {ps path ys : List Int} (hp : PkOk H p) (hq : PkOk H q) (bp : IsB p.v.data) (bq : IsB q.v.data) (hpt : Ints .i64 H pt pn pk path) (hc : Ints .i64 H c cn ck ps) (hs : By H s sn sk ys) (hy : IsB ys) (hx : 0 ≤ x ∧ x < 256) (hcn : cn ≤ 140737488355328) :
    ∃ H', Cr 13 [p.agg, q.agg, .int .i64 me, .slice pt pn pk, .slice c cn ck, .int .u8 x, .int .i64 cut, .slice s sn sk] H = some (.bool true, H') := by
  obtain ⟨H1, H2, e1, e2, n1, n2, g1, g2, g3, k1, k2⟩ := two H p.cells q.cells
  have hp2 := hp.keep k2
  have hq2 := hq.keep k2
  have aw : ∀ X, ∃ H', L0 me pt pn pk c cn ck x cut s sn sk H.next 0 H1.next 0 true X (.bool true, H') := fun X => by
    obtain ⟨H', c, _⟩ := F20.ok X
    refine ⟨H', L0_step ?_⟩
    rw [if_pos rfl]
    exact ⟨_, _, c, rfl⟩
  obtain ⟨H3, c3, p3⟩ := F27.ok (H := H2) (p := p)
  have n3 := p3.next
  have gp3 : H3.get H.next = .row p.cells true := by rw [p3.get _ (by omega)]; exact g2
  have gq3 : H3.get H1.next = .row q.cells true := by rw [p3.get _ (by omega)]; exact g3
  by_cases l1 : ¬(p.v.path.length ≤ 60 ∧ p.v.data.length ≤ 200)
  · obtain ⟨H', z⟩ := aw H3
    refine ⟨H', call ⟨_, e1, _, e2, _, _, _, _, _, _, _, _, _, _, rldAll g2, _, _, c3, ?_⟩⟩
    rw [if_neg (by simpa using l1)]; exact z
  replace l1 := Classical.not_not.1 l1
  obtain ⟨H4, c4, p4⟩ := F27.ok (H := H3) (p := q)
  have n4 := p4.next
  have gp4 : H4.get H.next = .row p.cells true := by rw [p4.get _ (by omega)]; exact gp3
  have gq4 : H4.get H1.next = .row q.cells true := by rw [p4.get _ (by omega)]; exact gq3
  have k4 := (k2.trans (p3.weak (by omega))).trans (p4.weak (by omega))
  by_cases l2 : ¬(q.v.path.length ≤ 60 ∧ q.v.data.length ≤ 200)
  · obtain ⟨H', z⟩ := aw H4
    refine ⟨H', call ⟨_, e1, _, e2, _, _, _, _, _, _, _, _, _, _, rldAll g2, _, _, c3, ?_⟩⟩
    rw [if_pos (by simpa using l1)]
    refine ⟨_, _, _, _, _, _, _, _, _, _, rldAll gq3, _, _, c4, ?_⟩
    rw [if_neg (by simpa using l2)]; exact z
  replace l2 := Classical.not_not.1 l2
  have go : ∀ r, (if (pn : Int) > 60 then L0 me pt pn pk c cn ck x cut s sn sk H.next 0 H1.next 0 true H4 r else L0 me pt pn pk c cn ck x cut s sn sk H.next 0 H1.next 0 (decide ((sn : Int) > 200)) H4 r) → Cr 13 [p.agg, q.agg, .int .i64 me, .slice pt pn pk, .slice c cn ck, .int .u8 x, .int .i64 cut, .slice s sn sk] H = some r := by
    intro r hr
    refine call ⟨_, e1, _, e2, _, _, _, _, _, _, _, _, _, _, rldAll g2, _, _, c3, ?_⟩
    rw [if_pos (by simpa using l1)]
    refine ⟨_, _, _, _, _, _, _, _, _, _, rldAll gq3, _, _, c4, ?_⟩
    rw [if_pos (by simpa using l2)]
    exact hr
  by_cases l3 : (pn : Int) > 60
  · obtain ⟨H', z⟩ := aw H4
    exact ⟨H', go _ (by rw [if_pos l3]; exact z)⟩
  by_cases l4 : (sn : Int) > 200
  · obtain ⟨H', z⟩ := aw H4
    exact ⟨H', go _ (by rw [if_neg l3, decide_eq_true l4]; exact z)⟩
  obtain ⟨H', z⟩ := l0 (me := me) (cut := cut) (P := H.next) (Z := H1.next) (by omega) (by omega) gp4 gq4 (hp.keep k4) (hq.keep k4) bp bq (hpt.keep k4) (hc.keep k4) (hs.keep k4) hy hx l1 (by omega) (by omega) hcn
  exact ⟨H', go _ (by rw [if_neg l3, decide_eq_false l4]; exact z)⟩
theorem law {H : Heap} {ds : List (List Value)} (h : HoldsAll H [TPk, TPk, .int .i64, .slice (.int .i64) 8, .slice (.int .i64) 8, .int .u8, .int .i64, .slice (.int .u8) 1] ds) : ∃ H', Cr 13 (vals [TPk, TPk, .int .i64, .slice (.int .i64) 8, .slice (.int .i64) 8, .int .u8, .int .i64, .slice (.int .u8) 1] ds) H = some (.bool true, H') := by
  obtain ⟨d0, _, rfl, h0, h⟩ := h.cons
  obtain ⟨d1, _, rfl, h1, h⟩ := h.cons
  obtain ⟨d2, _, rfl, h2, h⟩ := h.cons
  obtain ⟨d3, _, rfl, h3, h⟩ := h.cons
  obtain ⟨d4, _, rfl, h4, h⟩ := h.cons
  obtain ⟨d5, _, rfl, h5, h⟩ := h.cons
  obtain ⟨d6, _, rfl, h6, h⟩ := h.cons
  obtain ⟨d7, _, rfl, h7, h⟩ := h.cons
  obtain rfl := h.nil
  obtain ⟨p, rfl, hp, bp⟩ := pkOf h0
  obtain ⟨q, rfl, hq, bq⟩ := pkOf h1
  obtain ⟨me, rfl, _⟩ := h2.i
  obtain ⟨a3, n3, k3, xs3, rfl, s3, b3, w3⟩ := h3.ints
  obtain ⟨a4, n4, k4, xs4, rfl, s4, b4, w4⟩ := h4.ints
  obtain ⟨x, rfl, hx⟩ := h5.i
  obtain ⟨cut, rfl, _⟩ := h6.i
  obtain ⟨a7, n7, k7, xs7, rfl, s7, b7, w7⟩ := h7.ints
  exact ok hp hq bp bq s3 s4 s7 (IsB.of w7) (u8_wf hx) (by omega)
end F13
end Go.X
