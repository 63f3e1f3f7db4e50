/- What the readers of bits come to: numbers, bytes, what fills up. -/
import Derived.Test.YtbfjajoekcbodaaXzEb2
set_option linter.unusedVariables false
set_option linter.unusedSimpArgs false
namespace Go.X
open Go Go.RowKit Go.Proofs
namespace F72
variable {H : Heap} {p : Nat} {a : Option Addr} {R : List Bool} {e : Int}
theorem yes (h : RM H p a R 0) {m : Int} (hm : m ≤ R.length) : Cc 72 [.pointer (some ⟨p, 0, none⟩), .int .i64 m] H = some (.bool true, H) := by
  have c := F76.ok h
  obtain ⟨n, k, B, at_, h⟩ := h
  refine call ?_
  rw [if_neg (by simp)]
  refine ⟨p, 0, rfl, _, rldc h.row 2, L0_step ?_⟩
  rw [if_neg (by simp)]
  refine ⟨_, _, c, ?_⟩
  rw [if_neg (by omega)]
theorem short (h : RM H p a R 0) {m : Int} (hm : (R.length : Int) < m) : ∃ H', Cc 72 [.pointer (some ⟨p, 0, none⟩), .int .i64 m] H = some (.bool false, H') ∧ RM H' p none [] 2 ∧ Fd p a none H H' := by
  have c := F76.ok h
  obtain ⟨H', c2, r, f⟩ := F80.ok h 2
  obtain ⟨n, k, B, at_, h⟩ := h
  refine ⟨H', call ?_, r, f⟩
  rw [if_neg (by simp)]
  refine ⟨p, 0, rfl, _, rldc h.row 2, L0_step ?_⟩
  rw [if_neg (by simp)]
  refine ⟨_, _, c, ?_⟩
  rw [if_pos (by omega)]
  exact ⟨_, c2, rfl⟩
theorem bad (h : RM H p a R e) (he : e ≠ 0) (m : Int) : Cc 72 [.pointer (some ⟨p, 0, none⟩), .int .i64 m] H = some (.bool false, H) := by
  obtain ⟨n, k, B, at_, h⟩ := h
  refine call ?_
  rw [if_neg (by simp)]
  refine ⟨p, 0, rfl, _, rldc h.row 2, L0_step ?_⟩
  rw [if_pos (by simpa using he)]
theorem nil (m : Int) : Cc 72 [.pointer none, .int .i64 m] H = some (.bool false, H) := call ((if_pos (show (none : Option Addr).isNone = true from rfl)).mpr (L0_step (by rw [if_pos rfl])))
end F72
namespace F49
variable {H : Heap} {p : Nat} {a : Option Addr} {R : List Bool} {e : Int}
theorem l1 {w : Nat} (hw : w ≤ 64) : ∀ (d j : Nat) (l R : List Bool) (H : Heap), j + d = w → d ≤ R.length → RM H p a R 0 → ∃ H', L1 (some ⟨p, 0, none⟩) (nb (valOf l)) (w : Int) (j : Int) H (.int .u64 (nb (valOf (l ++ R.take d))), H') ∧ RM H' p a (R.drop d) 0 ∧ Fd p a a H H' := by
  intro d
  induction d with
  | zero =>
    intro j l R H hj hR h
    refine ⟨H, L1_step ?_, by simpa using h, Fd.refl _⟩
    rw [if_neg (by omega)]
    simp
  | succ d ih =>
    intro j l R H hj hR h
    cases R with
    | nil => simp at hR
    | cons b R =>
      simp only [List.length_cons] at hR
      obtain ⟨H1, c1, r1, f1⟩ := F73.ok h
      obtain ⟨H', z, r, f⟩ := ih (j + 1) (l ++ [b]) R H1 (by omega) (by omega) r1
      refine ⟨H', L1_step ?_, by simpa using r, f1.trans f⟩
      rw [if_pos (by omega)]
      refine ⟨_, _, c1, ?_⟩
      rw [val_step, ← valOf_concat, i64 (by omega) (by omega)]
      rw [List.append_assoc, List.singleton_append, ← List.take_succ_cons] at z
      exact_mod_cast z
theorem take (h : RM H p a R 0) {w : Nat} (hw : w ≤ 64) (hR : w ≤ R.length) : ∃ H', Cc 49 [.pointer (some ⟨p, 0, none⟩), .int .i64 (w : Int)] H = some (.int .u64 (nb (valOf (R.take w))), H') ∧ RM H' p a (R.drop w) 0 ∧ Fd p a a H H' := by
  obtain ⟨H', z, r, f⟩ := l1 hw w 0 [] R H (by omega) hR h
  refine ⟨H', call ⟨_, _, F71.ok _ _, ?_⟩, r, f⟩
  rw [if_pos (by simp; omega)]
  refine ⟨_, _, F72.yes h (by omega), L0_step ?_⟩
  rw [if_neg (by simp)]
  exact z
theorem short (h : RM H p a R 0) {w : Nat} (hw : w ≤ 64) (hR : R.length < w) : ∃ H', Cc 49 [.pointer (some ⟨p, 0, none⟩), .int .i64 (w : Int)] H = some (.int .u64 0, H') ∧ RM H' p none [] 2 ∧ Fd p a none H H' := by
  obtain ⟨H', c, r, f⟩ := F72.short h (m := (w : Int)) (by omega)
  refine ⟨H', call ⟨_, _, F71.ok _ _, ?_⟩, r, f⟩
  rw [if_pos (by simp; omega)]
  refine ⟨_, _, c, L0_step ?_⟩
  rw [if_pos (by simp)]
theorem bad (h : RM H p a R e) {w : Int} (hw : w < 0 ∨ 64 < w ∨ e ≠ 0) : Cc 49 [.pointer (some ⟨p, 0, none⟩), .int .i64 w] H = some (.int .u64 0, H) := by
  refine call ⟨_, _, F71.ok _ _, ?_⟩
  by_cases hg : 0 ≤ w ∧ w ≤ 64
  · rw [if_pos (by simpa using hg)]
    refine ⟨_, _, F72.bad h (by omega) _, L0_step ?_⟩
    rw [if_pos (by simp)]
  · rw [if_neg (by simpa using hg)]
    exact L0_step (by rw [if_pos rfl])
theorem nil (w : Int) : Cc 49 [.pointer none, .int .i64 w] H = some (.int .u64 0, H) := by
  refine call ⟨_, _, F71.ok _ _, ?_⟩
  by_cases hg : 0 ≤ w ∧ w ≤ 64
  · rw [if_pos (by simpa using hg)]
    refine ⟨_, _, F72.nil _, L0_step ?_⟩
    rw [if_pos (by simp)]
  · rw [if_neg (by simpa using hg)]
    exact L0_step (by rw [if_pos rfl])
end F49
namespace F77
theorem ok {H : Heap} {p : Nat} {a : Option Addr} {R : List Bool} {e : Int} (h : RM H p a R e) : ∃ n k, Cc 77 [.pointer (some ⟨p, 0, none⟩)] H = some (.slice a n k, H) ∧ R.length ≤ 8 * n ∧ n ≤ 1099511627776 := by
  obtain ⟨n, k, B, at_, h⟩ := h
  have := h.len
  refine ⟨n, k, call ?_, by omega, h.small⟩
  rw [if_neg (by simp)]
  exact ⟨p, 0, rfl, _, _, _, rldc h.row 0, rfl⟩
theorem nil {H : Heap} : Cc 77 [.pointer none] H = some (.slice none 0 0, H) := call ((if_pos (show (none : Option Addr).isNone = true from rfl)).mpr rfl)
end F77
/-- The bytes that bits make, by eight. -/
def bytesOf (R : List Bool) (n : Nat) : List Int := (List.range n).map fun j => IntKind.wrap .u8 (nb (valOf ((R.drop (8 * j)).take 8)))
theorem bytesOf_len (R : List Bool) (n : Nat) : (bytesOf R n).length = n := by simp [bytesOf]
theorem bytesOf_succ (R : List Bool) (n : Nat) : bytesOf R (n + 1) = bytesOf R n ++ [IntKind.wrap .u8 (nb (valOf ((R.drop (8 * n)).take 8)))] := by unfold bytesOf; rw [List.range_succ, List.map_append]; rfl
namespace F60
variable {H : Heap} {p : Nat} {a : Option Addr} {R : List Bool} {e : Int}
theorem l1 {G : Heap} {n : Nat} (hn : n ≤ 1099511627776) (hR : 8 * n ≤ R.length) (hp : p < G.next) (ha : ∀ b, In1 a b → b < G.next) : ∀ (d j : Nat) (H : Heap) (a5 : Option Addr) (k5 : Nat), j + d = n → RM H p a (R.drop (8 * j)) 0 → Chg (fun b => b = p) G H → OwnI .u8 G.next H a5 j k5 (bytesOf R j) →
    ∃ a' k' H', L1 (some ⟨p, 0, none⟩) a5 j k5 (n : Int) (j : Int) H (.slice a' n k', H') ∧ RM H' p a (R.drop (8 * n)) 0 ∧ OwnI .u8 G.next H' a' n k' (bytesOf R n) ∧ Chg (fun b => b = p) G H' := by
  intro d
  induction d with
  | zero =>
    intro j H a5 k5 hj h g o
    have e : j = n := by omega
    subst e
    refine ⟨a5, k5, H, L1_step ?_, h, o, g⟩
    rw [if_neg (by omega)]
  | succ d ih =>
    intro j H a5 k5 hj h g o
    obtain ⟨H1, c1, r1, f1⟩ := F49.take h (w := 8) (by omega) (by simp; omega)
    rw [List.drop_drop, show 8 * j + 8 = 8 * (j + 1) by omega] at r1
    have o1 : OwnI .u8 G.next H1 a5 j k5 (bytesOf R j) := o.chg f1.chg fun b hb e => by have := (o.lt hb).1; have e : b = p := e; omega
    have k2 : Keep H1.next H1 (H1.push (.row [.int .u8 (IntKind.wrap .u8 (nb (valOf ((R.drop (8 * j)).take 8))))] true)) := Keep.push _ (Nat.le_refl _)
    have on := (OwnI.new (K := .u8) H1 [IntKind.wrap .u8 (nb (valOf ((R.drop (8 * j)).take 8)))]).sl
    have gn : G.next ≤ H1.next := Nat.le_trans g.next f1.chg.next
    have o2 := o1.keep k2
    obtain ⟨a3, k3, H3, c3, o3, g3⟩ := OwnI.app (K := .u8) 1 o2 on (by simp; omega) (by simp; omega) (by simp; omega)
    have r3 : RM H3 p a (R.drop (8 * (j + 1))) 0 := (r1.new k2).chg g3.chg (by omega) fun b hb => by have := ha b hb; omega
    rw [← bytesOf_succ] at o3
    have kk : Keep G.next H1 H3 := (k2.weak gn).trans g3
    obtain ⟨a', k', H', z, r, o', g'⟩ := ih (j + 1) H3 a3 k3 (by omega) r3 ((g.trans f1.chg fun _ _ h => h).trans kk.chg fun b hb h => by have h : G.next ≤ b := h; omega) o3
    refine ⟨a', k', H', L1_step ?_, r, o', g'⟩
    rw [if_pos (by omega)]
    refine ⟨_, _, c1, _, rfl, _, _, _, _, c3, ?_⟩
    rw [i64 (by omega) (by omega)]
    exact_mod_cast z
theorem text (h : RM H p a R 0) {n : Nat} (hn : 0 < n) (hR : 8 * n ≤ R.length) : ∃ a' k' H', Cc 60 [.pointer (some ⟨p, 0, none⟩), .int .i64 (n : Int)] H = some (.slice a' n k', H') ∧ RM H' p a (R.drop (8 * n)) 0 ∧ OwnI .u8 H.next H' a' n k' (bytesOf R n) ∧ Chg (fun b => b = p) H H' := by
  obtain ⟨m, k, c, hm, hm2⟩ := F77.ok h
  have hp := h.lt
  have ha : ∀ b, In1 a b → b < H.next := by obtain ⟨n, k, B, at_, h⟩ := h; exact fun b hb => h.s.lt hb
  obtain ⟨a', k', H', z, r, o, g⟩ := l1 (n := n) (by omega) hR hp ha n 0 H none 0 (by omega) (by simpa using h) (Chg.refl _) OwnI.nil
  refine ⟨a', k', H', call ?_, r, o, g⟩
  rw [if_neg (by omega)]
  refine ⟨_, _, _, _, c, _, _, F72.yes h ?_, L0_step ?_⟩
  · rw [i64 (n := (m : Int) + 1) (by omega) (by omega)]
    have : imin (n : Int) ((m : Int) + 1) = (n : Int) := by unfold imin; split <;> omega
    rw [this, i64 (by omega) (by omega)]; omega
  · rw [if_neg (by simp)]
    exact z
theorem short (h : RM H p a R 0) {n : Int} (hn : 0 < n) (hR : (R.length : Int) < 8 * n) : ∃ H', Cc 60 [.pointer (some ⟨p, 0, none⟩), .int .i64 n] H = some (.slice none 0 0, H') ∧ RM H' p none [] 2 ∧ Fd p a none H H' := by
  obtain ⟨m, k, c, hm, hm2⟩ := F77.ok h
  have e1 : IntKind.wrap .i64 ((m : Int) + 1) = (m : Int) + 1 := i64 (by omega) (by omega)
  have e2 : 0 ≤ imin n ((m : Int) + 1) ∧ imin n ((m : Int) + 1) ≤ (m : Int) + 1 ∧ (R.length : Int) < imin n ((m : Int) + 1) * 8 := by unfold imin; split <;> omega
  have e3 : IntKind.wrap .i64 (imin n ((m : Int) + 1) * 8) = imin n ((m : Int) + 1) * 8 := i64 (by omega) (by omega)
  obtain ⟨H', c2, r, f⟩ := F72.short h (m := imin n ((m : Int) + 1) * 8) (by omega)
  refine ⟨H', call ?_, r, f⟩
  rw [if_neg (by omega)]
  refine ⟨_, _, _, _, c, ?_⟩
  rw [e1, e3]
  refine ⟨_, _, c2, L0_step ?_⟩
  rw [if_pos (by simp)]
theorem none (h : RM H p a R e) {n : Int} (hn : n ≤ 0 ∨ e ≠ 0) : Cc 60 [.pointer (some ⟨p, 0, Option.none⟩), .int .i64 n] H = some (.slice Option.none 0 0, H) := by
  obtain ⟨m, k, c, hm, hm2⟩ := F77.ok h
  refine call ?_
  by_cases h0 : n ≤ 0
  · rw [if_pos h0]
    exact L0_step (by rw [if_pos rfl])
  · rw [if_neg h0]
    refine ⟨_, _, _, _, c, _, _, F72.bad h (by omega) _, L0_step ?_⟩
    rw [if_pos (by simp)]
theorem nil (n : Int) : Cc 60 [.pointer Option.none, .int .i64 n] H = some (.slice Option.none 0 0, H) := by
  refine call ?_
  by_cases h0 : n ≤ 0
  · rw [if_pos h0]
    exact L0_step (by rw [if_pos rfl])
  · rw [if_neg h0]
    refine ⟨_, _, _, _, F77.nil, _, _, F72.nil _, L0_step ?_⟩
    rw [if_pos (by simp)]
end F60
theorem pack_fill (L : List Bool) : pack (fillUp L) = pack L := by
  have hl := fillUp_len L
  have hd : ((fillUp L).length + 7) / 8 = (L.length + 7) / 8 := by omega
  unfold pack
  rw [hd]
  refine List.map_congr_left fun j hj => ?_
  have hj : j < (L.length + 7) / 8 := by simpa using hj
  congr 1
  refine byteB_cong fun i hi => ?_
  unfold fillUp
  rw [List.getD, List.getD, List.getElem?_drop, List.getElem?_drop]
  by_cases h : 8 * j + i < L.length
  · rw [List.getElem?_append_left h]
  · rw [List.getElem?_append_right (by omega), List.getElem?_replicate, List.getElem?_eq_none (by omega)]
    split <;> rfl
/-- The bits of bytes that are put. -/
def textBits (xs : List Int) : List Bool := xs.flatMap fun c => bitsN (BitVec.ofInt 64 c) 8
theorem textBits_len (xs : List Int) : (textBits xs).length = 8 * xs.length := by
  unfold textBits
  induction xs with
  | nil => rfl
  | cons x xs ih => rw [List.flatMap_cons, List.length_append, ih, seg_len, List.length_cons]; omega
namespace F62
variable {p : Nat} {G : Heap}
theorem l0 {a6 : Option Addr} {n6 k6 : Nat} {xs : List Int} (hs : By G a6 n6 k6 xs) (hn6 : n6 ≤ 1099511627776) : ∀ (rest : List Int) (j : Nat) (L : List Bool) (a : Option Addr) (n k : Nat) (H : Heap), xs.drop j = rest → j + rest.length = n6 → WR H p L a n k → L.length + 8 * rest.length ≤ 1099511627776 → Keep G.next G H → G.next ≤ p → (∀ b, In1 a b → G.next ≤ b) →
    ∃ a' n' k' H', L0 (some ⟨p, 0, none⟩) a6 n6 k6 (n6 : Int) (j : Int) H (.tuple #[], H') ∧ WR H' p (L ++ textBits rest) a' n' k' ∧ Ft p a a' H H' := by
  intro rest
  induction rest with
  | nil =>
    intro j L a n k H hd hj h hL hk hp ha
    simp only [List.length_nil] at hj
    refine ⟨a, n, k, H, L0_step ?_, by simpa [textBits] using h, Ft.refl _⟩
    rw [if_neg (by omega)]
  | cons x rest ih =>
    intro j L a n k H hd hj h hL hk hp ha
    simp only [List.length_cons] at hj hL
    have hx := drop_get hd
    obtain ⟨b, o, rfl⟩ := hs.at (by omega)
    have ex : IntKind.wrap .u64 x = nb (BitVec.ofInt 64 x) := wrap_nb (k := .u64) rfl x
    obtain ⟨a1, n1, k1, H1, c1, w1, f1⟩ := F41.ok (v := BitVec.ofInt 64 x) h (width := 8) (by omega) (by omega)
    have hk1 := hk.trans (f1.keep hk.next hp ha)
    obtain ⟨a', n', k', H', z, w, f⟩ := ih (j + 1) _ a1 n1 k1 H1 (drop_next hd) (by omega) w1 (by rw [List.length_append, seg_len]; omega) hk1 hp (fun b hb => by
      rcases f1.arr b hb with e | e
      · exact ha b e
      · have := hk.next; omega)
    refine ⟨a', n', k', H', L0_step ?_, by rw [List.append_assoc] at w; exact w, f1.trans f⟩
    rw [if_pos (by omega)]
    refine ⟨b, o, rfl, by omega, by omega, _, Ints.get (hs.keep hk) hx, ?_⟩
    rw [ex, i64 (by omega) (by omega)]
    exact ⟨_, c1, by exact_mod_cast z⟩
theorem ok {H : Heap} {L : List Bool} {a a6 : Option Addr} {n k n6 k6 base : Nat} {xs : List Int} (hs : By G a6 n6 k6 xs) (hG : Keep G.next G H) (h : WR H p L a n k) (hn6 : n6 ≤ 1099511627776) (hL : L.length + 8 * n6 ≤ 1099511627776) (hp : G.next ≤ p) (ha : ∀ b, In1 a b → G.next ≤ b) :
    ∃ a' n' k' H', Cc 62 [.pointer (some ⟨p, 0, none⟩), .slice a6 n6 k6] H = some (.tuple #[], H') ∧ WR H' p (L ++ textBits xs) a' n' k' ∧ Ft p a a' H H' := by
  have hl := hs.ln
  obtain ⟨a', n', k', H', z, w, f⟩ := l0 hs hn6 xs 0 L a n k H rfl (by omega) h (by omega) hG hp ha
  exact ⟨a', n', k', H', call z, w, f⟩
theorem nil {H : Heap} {a6 : Option Addr} {n6 k6 : Nat} {xs : List Int} (hs : By H a6 n6 k6 xs) (hn6 : n6 ≤ 140737488355328) : Cc 62 [.pointer none, .slice a6 n6 k6] H = some (.tuple #[], H) := by
  have hl := hs.ln
  have key : ∀ (d j : Nat), j + d = n6 → L0 none a6 n6 k6 (n6 : Int) (j : Int) H (.tuple #[], H) := by
    intro d
    induction d with
    | zero => exact fun j hj => L0_step (by rw [if_neg (by omega)])
    | succ d ih =>
      intro j hj
      obtain ⟨b, o, rfl⟩ := hs.at (by omega)
      have hx : xs[j]? = some (xs.getD j 0) := by simp [List.getD, List.getElem?_eq_getElem (show j < xs.length by omega)]
      refine L0_step ?_
      rw [if_pos (by omega)]
      refine ⟨b, o, rfl, by omega, by omega, _, Ints.get hs hx, _, F41.nil, ?_⟩
      rw [i64 (by omega) (by omega)]
      exact_mod_cast ih (j + 1) (by omega)
  exact call (key n6 0 (by omega))
end F62
end Go.X
