/- Elements as bytes: what is written. -/
import Derived.Test.YtbfjajoekcbodaaXzEi2
set_option linter.unusedVariables false
set_option linter.unusedSimpArgs false
set_option maxRecDepth 20000
namespace Go.X
open Go Go.RowKit Go.Proofs
/-- What an element puts behind its kind. -/
def putE (v : VE) : List Int := if v.kd = 1 then 6 :: (beB v.asn 5 ++ [v.rk]) else if v.kd = 2 then 2 :: beB v.tk 2 else (v.l.length : Int) :: v.l
def encE (v : VE) : List Int := v.kd :: putE v
def encL (vs : List VE) : List Int := (vs.length : Int) :: vs.flatMap encE
def okL (vs : List VE) : Prop := vs.length ≤ 4 ∧ ∀ v ∈ vs, mayE v
instance (vs : List VE) : Decidable (okL vs) := by unfold okL; infer_instance
def encO (vs : List VE) : List Int := if okL vs then encL vs else []
theorem mayE_kd {v : VE} (h : mayE v) : v.kd = 1 ∧ asnP v.asn ∧ byteP v.rk ∨ v.kd = 2 ∧ tickP v.tk ∨ (v.kd = 3 ∨ v.kd = 4) ∧ listP v.l := h.1
theorem isB_cons {x : Int} {xs : List Int} (h : 0 ≤ x ∧ x < 256) (h2 : IsB xs) : IsB (x :: xs) := fun y hy => by rcases List.mem_cons.1 hy with rfl | hy; exact h; exact h2 y hy
theorem isB_app {xs ys : List Int} (h : IsB xs) (h2 : IsB ys) : IsB (xs ++ ys) := fun y hy => by rcases List.mem_append.1 hy with hy | hy; exact h y hy; exact h2 y hy
theorem isB_nil : IsB [] := fun _ h => by cases h
theorem byteP_b {x : Int} (h : byteP x) : 0 ≤ x ∧ x < 256 := ⟨h.1, by have := h.2; omega⟩
theorem encE_isB {v : VE} (h : mayE v) : IsB (encE v) := by
  unfold encE putE
  rcases mayE_kd h with ⟨h1, h2, h3⟩ | ⟨h1, h2⟩ | ⟨h1, h2⟩
  · rw [if_pos h1]
    exact isB_cons (by omega) (isB_cons (by omega) (isB_app (beB_isB _ _) (isB_cons (byteP_b h3) isB_nil)))
  · rw [if_neg (by omega), if_pos h1]
    exact isB_cons (by omega) (isB_cons (by omega) (beB_isB _ _))
  · rw [if_neg (by omega), if_neg (by omega)]
    exact isB_cons (by omega) (isB_cons (by have := h2.1; omega) fun x hx => byteP_b (h2.2 x hx))
theorem encE_len {v : VE} (h : mayE v) : (encE v).length ≤ 18 := by
  unfold encE putE
  rcases mayE_kd h with ⟨h1, h2, h3⟩ | ⟨h1, h2⟩ | ⟨h1, h2⟩
  · rw [if_pos h1]; simp [beB_len]
  · rw [if_neg (by omega), if_pos h1]; simp [beB_len]
  · rw [if_neg (by omega), if_neg (by omega)]; simp; exact h2.1
theorem flatE_isB : ∀ {vs : List VE}, (∀ v ∈ vs, mayE v) → IsB (vs.flatMap encE)
  | [], _ => isB_nil
  | v :: vs, h => by rw [List.flatMap_cons]; exact isB_app (encE_isB (h v (by simp))) (flatE_isB fun w hw => h w (by simp [hw]))
theorem flatE_len : ∀ {vs : List VE}, (∀ v ∈ vs, mayE v) → (vs.flatMap encE).length ≤ 18 * vs.length
  | [], _ => by simp
  | v :: vs, h => by
    rw [List.flatMap_cons, List.length_append, List.length_cons]
    have := encE_len (h v (by simp))
    have := flatE_len (vs := vs) fun w hw => h w (by simp [hw])
    omega
theorem encL_isB {vs : List VE} (h : okL vs) : IsB (encL vs) := isB_cons (by have := h.1; omega) (flatE_isB h.2)
theorem encO_isB (vs : List VE) : IsB (encO vs) := by
  unfold encO
  split
  · rename_i h; exact encL_isB h
  · exact isB_nil
/-- A writer above a base. -/
structure Wk (G H : Heap) (p : Nat) (L : List Bool) (a : Option Addr) (n k : Nat) : Prop where
  w : WR H p L a n k
  kp : Keep G.next G H
  hp : G.next ≤ p
  ha : ∀ b, In1 a b → G.next ≤ b
section
variable {G H H1 H2 : Heap} {p q : Nat} {L : List Bool} {a a' : Option Addr} {n k : Nat}
theorem Wk.new (h : Wk G H p L a n k) (c : Keep H.next H H1) : Wk G H1 p L a n k := ⟨h.w.new c, h.kp.trans (c.weak h.kp.next), h.hp, h.ha⟩
theorem Wk.put (h : Wk G H p L a n k) (v : BitVec 64) (width : Nat) (hw : width ≤ 64) (hL : L.length + width ≤ 1099511627776) : ∃ a' n' k' H', Ce 41 [.pointer (some ⟨p, 0, none⟩), .int .u64 (nb v), .int .i64 (width : Int)] H = some (.tuple #[], H') ∧ Wk G H' p (L ++ bitsN v width) a' n' k' ∧ Ft p a a' H H' := by
  obtain ⟨a', n', k', H', c, w, f⟩ := F41.ok (v := v) h.w hw hL
  refine ⟨a', n', k', H', c, ⟨w, h.kp.trans (f.keep h.kp.next h.hp h.ha), h.hp, fun b hb => ?_⟩, f⟩
  rcases f.arr b hb with e | e
  · exact h.ha b e
  · have := h.kp.next; omega
/-- A row that came later is left. -/
theorem WR.at (w : WR H p L a n k) (hq : H.next ≤ q) (f : Ft p a a' H1 H2) (hq1 : q < H1.next) : H2.get q = H1.get q :=
  f.chg.get q hq1 fun c => by
    rcases c with e | e
    · have := w.lt; omega
    · have := (w.own.lt e).2; omega
end
theorem nb_wrap (x : Int) : IntKind.wrap .u64 x = nb (BitVec.ofInt 64 x) := wrap_nb (k := .u64) rfl x
theorem n6 : nb (BitVec.ofInt 64 6) = 6 := by decide
theorem n2 : nb (BitVec.ofInt 64 2) = 2 := by decide
namespace F99
theorem ok {G H : Heap} {p n k : Nat} {L : List Bool} {a : Option Addr} (h : Wk G H p L a n k) (hL : L.length ≤ 100000) (x y : Int) : ∃ a' n' k' H', Ce 99 [.agg #[.int .i64 x, .int .i64 y], .pointer (some ⟨p, 0, none⟩)] H = some (.tuple #[], H') ∧ Wk G H' p (L ++ tbits (6 :: (beB x 5 ++ [y]))) a' n' k' ∧ Ft p a a' H H' := by
  obtain ⟨H1, e1, m1, g1, k1⟩ := one H [.int .i64 x, .int .i64 y]
  obtain ⟨a2, n2, k2, H2, c2, w2, f2⟩ := (h.new k1).put (BitVec.ofInt 64 6) 8 (by omega) (by omega)
  have l2 : (L ++ bitsN (BitVec.ofInt 64 6) 8).length = L.length + 8 := by rw [List.length_append, seg_len]
  obtain ⟨a3, n3, k3, H3, c3, w3, f3⟩ := w2.put (BitVec.ofInt 64 x) 40 (by omega) (by omega)
  have l3 : (L ++ bitsN (BitVec.ofInt 64 6) 8 ++ bitsN (BitVec.ofInt 64 x) 40).length = L.length + 48 := by rw [List.length_append, l2, seg_len]
  obtain ⟨a4, n4, k4, H4, c4, w4, f4⟩ := w3.put (BitVec.ofInt 64 y) 8 (by omega) (by omega)
  have g2 : H2.get H.next = .row [.int .i64 x, .int .i64 y] true := by rw [h.w.at (Nat.le_refl _) f2 (by omega)]; exact g1
  have g3 : H3.get H.next = .row [.int .i64 x, .int .i64 y] true := by rw [h.w.at (Nat.le_refl _) (f2.trans f3) (by omega)]; exact g1
  refine ⟨a4, n4, k4, H4, call ⟨_, e1, H2, ?_, _, rldc' g2 0, H3, ?_, _, rldc' g3 1, H4, ?_, rfl⟩, ?_, (Ft.of k1).trans ((f2.trans f3).trans f4)⟩
  · rw [n6] at c2; exact c2
  · rw [nb_wrap]; exact c3
  · rw [nb_wrap]; exact c4
  · have e : L ++ tbits (6 :: (beB x 5 ++ [y])) = L ++ bitsN (BitVec.ofInt 64 6) 8 ++ bitsN (BitVec.ofInt 64 x) 40 ++ bitsN (BitVec.ofInt 64 y) 8 := by
      rw [show (6 : Int) :: (beB x 5 ++ [y]) = [6] ++ beB x 5 ++ [y] from rfl, tbits_append, tbits_append, tbits_beB, tbits_one, tbits_one]; simp
    rw [e]; exact w4
end F99
namespace F101
theorem ok {G H : Heap} {p n k : Nat} {L : List Bool} {a : Option Addr} (h : Wk G H p L a n k) (hL : L.length ≤ 100000) (x : Int) : ∃ a' n' k' H', Ce 101 [.agg #[.int .i64 x], .pointer (some ⟨p, 0, none⟩)] H = some (.tuple #[], H') ∧ Wk G H' p (L ++ tbits (2 :: beB x 2)) a' n' k' ∧ Ft p a a' H H' := by
  obtain ⟨H1, e1, m1, g1, k1⟩ := one H [.int .i64 x]
  obtain ⟨a2, n2', k2, H2, c2, w2, f2⟩ := (h.new k1).put (BitVec.ofInt 64 2) 8 (by omega) (by omega)
  have l2 : (L ++ bitsN (BitVec.ofInt 64 2) 8).length = L.length + 8 := by rw [List.length_append, seg_len]
  obtain ⟨a3, n3, k3, H3, c3, w3, f3⟩ := w2.put (BitVec.ofInt 64 x) 16 (by omega) (by omega)
  have g2 : H2.get H.next = .row [.int .i64 x] true := by rw [h.w.at (Nat.le_refl _) f2 (by omega)]; exact g1
  refine ⟨a3, n3, k3, H3, call ⟨_, e1, H2, ?_, _, rldc' g2 0, H3, ?_, rfl⟩, ?_, (Ft.of k1).trans (f2.trans f3)⟩
  · rw [n2] at c2; exact c2
  · rw [nb_wrap]; exact c3
  · have e : L ++ tbits (2 :: beB x 2) = L ++ bitsN (BitVec.ofInt 64 2) 8 ++ bitsN (BitVec.ofInt 64 x) 16 := by
      rw [show (2 : Int) :: beB x 2 = [2] ++ beB x 2 from rfl, tbits_append, tbits_beB, tbits_one]; simp
    rw [e]; exact w3
end F101
namespace F103
theorem l0 {G : Heap} {p : Nat} {s : Option Addr} {sn sk : Nat} {xs : List Int} (hs : Ints .i64 G s sn sk xs) (hn : sn ≤ 10000) : ∀ (rest : List Int) (j : Nat) (L : List Bool) (a : Option Addr) (n k : Nat) (H : Heap), xs.drop j = rest → j + rest.length = sn → Wk G H p L a n k → L.length + 8 * rest.length ≤ 1000000 →
    ∃ a' n' k' H', L0 (some ⟨p, 0, none⟩) s sn sk (sn : Int) (j : Int) H (.tuple #[], H') ∧ Wk G H' p (L ++ tbits rest) a' n' k' ∧ Ft p a a' H H' := by
  intro rest
  induction rest with
  | nil =>
    intro j L a n k H hd hj h hL
    simp only [List.length_nil] at hj
    refine ⟨a, n, k, H, L0_step ?_, by simpa [tbits] using h, Ft.refl _⟩
    rw [if_neg (by omega)]
  | cons x rest ih =>
    intro j L a n k H hd hj h hL
    simp only [List.length_cons] at hj hL
    have s1 := hs.keep h.kp
    obtain ⟨b, o, rfl⟩ := hs.at (by omega)
    obtain ⟨a2, n2, k2, H2, c2, w2, f2⟩ := h.put (BitVec.ofInt 64 x) 8 (by omega) (by omega)
    obtain ⟨a3, n3, k3, H3, z, w3, f3⟩ := ih (j + 1) _ a2 n2 k2 H2 (drop_next hd) (by omega) w2 (by rw [List.length_append, seg_len]; omega)
    refine ⟨a3, n3, k3, H3, L0_step ?_, ?_, f2.trans f3⟩
    · rw [if_pos (by omega)]
      refine ⟨b, o, rfl, by omega, by omega, x, Ints.get s1 (drop_get hd), H2, by rw [nb_wrap]; exact c2, ?_⟩
      rw [i64 (by omega) (by omega)]
      exact_mod_cast z
    · rw [show x :: rest = [x] ++ rest from rfl, tbits_append, tbits_one, ← List.append_assoc]; exact w3
theorem ok {G H : Heap} {p n k : Nat} {L : List Bool} {a : Option Addr} {s : Option Addr} {sn sk : Nat} {xs : List Int} (hs : Ints .i64 G s sn sk xs) (hn : sn ≤ 10000) (h : Wk G H p L a n k) (hL : L.length ≤ 100000) : ∃ a' n' k' H', Ce 103 [.agg #[.slice s sn sk], .pointer (some ⟨p, 0, none⟩)] H = some (.tuple #[], H') ∧ Wk G H' p (L ++ tbits ((xs.length : Int) :: xs)) a' n' k' ∧ Ft p a a' H H' := by
  have hl := hs.ln
  obtain ⟨H1, e1, m1, g1, k1⟩ := one H [.slice s sn sk]
  obtain ⟨a2, n2, k2, H2, c2, w2, f2⟩ := (h.new k1).put (BitVec.ofInt 64 (sn : Int)) 8 (by omega) (by omega)
  have l2 : (L ++ bitsN (BitVec.ofInt 64 (sn : Int)) 8).length = L.length + 8 := by rw [List.length_append, seg_len]
  obtain ⟨a3, n3, k3, H3, z, w3, f3⟩ := l0 hs hn xs 0 _ a2 n2 k2 H2 rfl (by omega) w2 (by omega)
  have g2 : H2.get H.next = .row [.slice s sn sk] true := by rw [h.w.at (Nat.le_refl _) f2 (by omega)]; exact g1
  refine ⟨a3, n3, k3, H3, call ⟨_, e1, _, _, _, rldc' g1 0, H2, ?_, _, _, _, rldc' g2 0, ?_⟩, ?_, (Ft.of k1).trans (f2.trans f3)⟩
  · rw [nb_wrap]; exact c2
  · exact_mod_cast z
  · rw [show (xs.length : Int) :: xs = [(xs.length : Int)] ++ xs from rfl, tbits_append, tbits_one, ← List.append_assoc, hl]; exact w3
end F103
theorem ofV_put {G : Heap} {e : Ie} (he : IeOk G e) (hm : mayE e.v) : ∃ t v g, ofV e = .iface t v ∧ xmethod Try.prog t "campanile/ie.put" = some g ∧ fnGoes Try.prog g = true ∧ ∀ (H : Heap) (p : Nat) (L : List Bool) (a : Option Addr) (n k : Nat), Wk G H p L a n k → L.length ≤ 100000 →
    ∃ a' n' k' H', Ce g [v, .pointer (some ⟨p, 0, none⟩)] H = some (.tuple #[], H') ∧ Wk G H' p (L ++ tbits (putE e.v)) a' n' k' ∧ Ft p a a' H H' := by
  unfold ofV putE
  rcases mayE_kd hm with ⟨h1, h2, h3⟩ | ⟨h1, h2⟩ | ⟨h1, h2⟩
  · rw [if_pos h1, if_pos h1]
    exact ⟨94, _, 99, rfl, p94, go99, fun H p L a n k h hL => F99.ok h hL _ _⟩
  · rw [if_neg (by omega), if_pos h1, if_neg (by omega), if_pos h1]
    exact ⟨96, _, 101, rfl, p96, go101, fun H p L a n k h hL => F101.ok h hL _⟩
  · rw [if_neg (by omega), if_neg (by omega), if_pos h1, if_neg (by omega), if_neg (by omega)]
    exact ⟨98, _, 103, rfl, p98, go103, fun H p L a n k h hL => F103.ok he.s (by have := he.s.ln; have := h2.1; omega) h hL⟩
namespace F16
theorem l1 {G : Heap} {p : Nat} {s : Option Addr} {sn sk : Nat} {l : List Ie} (hs : Ies G s sn sk l) (hl : ∀ e ∈ l, IeOk G e) (hm : ∀ e ∈ l, mayE e.v) (hn : sn ≤ 4) : ∀ (rest : List Ie) (j : Nat) (L : List Bool) (a : Option Addr) (n k : Nat) (H : Heap), l.drop j = rest → j + rest.length = sn → Wk G H p L a n k → L.length + 1000 * rest.length ≤ 10000 →
    ∃ a' k' H', L1 p 0 s sn sk (sn : Int) (j : Int) H (.tuple #[.slice a' (pack (L ++ tbits ((rest.map Ie.v).flatMap encE))).length k', .int .i64 0], H') ∧ OwnI .u8 G.next H' a' (pack (L ++ tbits ((rest.map Ie.v).flatMap encE))).length k' (pack (L ++ tbits ((rest.map Ie.v).flatMap encE))) ∧ Keep G.next G H' := by
  intro rest
  induction rest with
  | nil =>
    intro j L a n k H hd hj h hL
    simp only [List.length_nil] at hj
    obtain ⟨a3, k3, H3, c3, o3, g3⟩ := F42.ok h.w (by omega)
    have e : L ++ tbits (([] : List Ie).map Ie.v |>.flatMap encE) = L := by simp [tbits]
    rw [e]
    refine ⟨a3, k3, H3, L1_step ?_, o3.weak h.kp.next, h.kp.trans (g3.weak h.kp.next)⟩
    rw [if_neg (by omega)]
    exact ⟨_, _, _, _, c3, rfl⟩
  | cons e rest ih =>
    intro j L a n k H hd hj h hL
    simp only [List.length_cons] at hj hL
    have hx := drop_get hd
    have hmem := List.mem_of_getElem? hx
    obtain ⟨b, o, rfl⟩ := hs.at (by omega)
    have ra := (hs.keep h.kp).recs Ie.z hx
    obtain ⟨H2, s2, g2, k2, m2⟩ := scratchE (H := H) (e := e)
    obtain ⟨a3, n3, k3, H3, c3, w3, f3⟩ := (h.new k2).put (BitVec.ofInt 64 e.v.kd) 8 (by omega) (by omega)
    have g3 : H3.get H.next = .row e.cells true := by rw [h.w.at (Nat.le_refl _) f3 (by omega)]; exact g2
    obtain ⟨H4, c4, k4⟩ := F37.ok e H3
    obtain ⟨t, v, g, ho, hme, hgo, hput⟩ := ofV_put (hl e hmem) (hm e hmem)
    have l3 : (L ++ bitsN (BitVec.ofInt 64 e.v.kd) 8).length = L.length + 8 := by rw [List.length_append, seg_len]
    obtain ⟨a5, n5, k5, H5, c5, w5, f5⟩ := hput H4 p _ a3 n3 k3 (w3.new k4) (by omega)
    have pl : (putE e.v).length + 1 ≤ 18 := encE_len (hm e hmem)
    obtain ⟨a6, k6, H6, z, o6, kp6⟩ := ih (j + 1) _ a5 n5 k5 H5 (drop_next hd) (by omega) w5 (by rw [List.length_append, l3, tbits_len]; omega)
    have eq : L ++ bitsN (BitVec.ofInt 64 e.v.kd) 8 ++ tbits (putE e.v) ++ tbits ((rest.map Ie.v).flatMap encE) = L ++ tbits (((e :: rest).map Ie.v).flatMap encE) := by
      rw [List.map_cons, List.flatMap_cons, tbits_append, encE, show e.v.kd :: putE e.v = [e.v.kd] ++ putE e.v from rfl, tbits_append, tbits_one]; simp
    rw [eq] at z o6
    refine ⟨a6, k6, H6, L1_step ?_, o6, kp6⟩
    rw [if_pos (by omega)]
    refine ⟨b, o, rfl, by omega, by omega, _, _, _, _, _, _, _, ra, _, rfl, H2, s2, _, rldc' g2 0, H3, by rw [nb_wrap]; exact c3, _, _, _, _, _, _, _, rldAll g3, _, H4, c4, .inr ⟨t, v, ho, g, hme, hgo, H5, c5, ?_⟩⟩
    rw [i64 (by omega) (by omega)]
    exact_mod_cast z
theorem ok {H : Heap} {a : Option Addr} {n k : Nat} {l : List Ie} (hs : Ies H a n k l) (hl : ∀ e ∈ l, IeOk H e) (hn : n ≤ 3000000000000) : ∃ a' k' H', Ce 16 [.slice a n k] H = some (.tuple #[.slice a' (encO (l.map Ie.v)).length k', .int .i64 (if okL (l.map Ie.v) then 0 else 1)], H') ∧ OwnI .u8 H.next H' a' (encO (l.map Ie.v)).length k' (encO (l.map Ie.v)) ∧ Keep H.next H H' := by
  have hc := hs.cnt Ie.z (by decide)
  unfold encO
  by_cases h4 : (n : Int) > 4
  · have hno : ¬okL (l.map Ie.v) := fun c => by have := c.1; simp at this; omega
    rw [if_neg hno, if_neg hno]
    refine ⟨none, 0, H, call ?_, OwnI.nil, Keep.refl _ _⟩
    rw [if_pos h4]
    refine L0_step ?_
    rw [if_pos rfl]; rfl
  · obtain ⟨H1, c1, k1⟩ := F39.ok hs hl hn
    by_cases hm : ∀ e ∈ l, mayE e.v
    · have hok : okL (l.map Ie.v) := ⟨by simp; omega, fun v hv => by obtain ⟨e, he, rfl⟩ := List.mem_map.1 hv; exact hm e he⟩
      rw [if_pos hok, if_pos hok]
      have w0 := WR.mk0 H1
      have k2 : Keep H1.next H1 (H1.push (.row [.slice none 0 0, .int .i64 0] true)) := Keep.push _ (Nat.le_refl _)
      have wk : Wk H1 (H1.push (.row [.slice none 0 0, .int .i64 0] true)) H1.next [] none 0 0 := ⟨w0, k2, Nat.le_refl _, fun b hb => absurd hb In1.none⟩
      obtain ⟨a3, n3, k3, H3, c3, w3, f3⟩ := wk.put (BitVec.ofInt 64 (n : Int)) 8 (by omega) (by simp)
      obtain ⟨a4, k4, H4, z, o4, kp4⟩ := l1 (hs.keep k1) (fun e he => (hl e he).keep k1) hm (by omega) l 0 _ a3 n3 k3 H3 rfl (by omega) w3 (by simp [seg_len]; omega)
      have eq : [] ++ bitsN (BitVec.ofInt 64 (n : Int)) 8 ++ tbits ((l.map Ie.v).flatMap encE) = tbits (encL (l.map Ie.v)) := by
        unfold encL
        rw [show (((l.map Ie.v).length : Int) :: (l.map Ie.v).flatMap encE) = [((l.map Ie.v).length : Int)] ++ (l.map Ie.v).flatMap encE from rfl, tbits_append, tbits_one, List.length_map, hc]; simp
      rw [eq, pack_tbits (encL_isB hok)] at z o4
      refine ⟨a4, k4, H4, call ?_, o4.weak k1.next, k1.trans (kp4.weak k1.next)⟩
      rw [if_neg h4]
      refine ⟨_, _, c1, L0_step ?_⟩
      rw [if_neg (by simpa using hm)]
      exact ⟨_, rfl, H3, by rw [nb_wrap]; exact c3, by exact_mod_cast z⟩
    · have hno : ¬okL (l.map Ie.v) := fun c => hm fun e he => c.2 _ (List.mem_map.2 ⟨e, he, rfl⟩)
      rw [if_neg hno, if_neg hno]
      refine ⟨none, 0, H1, call ?_, OwnI.nil, k1⟩
      rw [if_neg h4]
      refine ⟨_, _, c1, L0_step ?_⟩
      rw [if_pos (by simpa using hm)]; rfl
end F16
/-- One element in a row of its own. -/
theorem Ies.one (H : Heap) (e : Ie) (own : Bool) : Ies (H.push (.row e.cells own)) (some ⟨H.next, 0, none⟩) 1 (UNK 5) [e] :=
  ⟨by simp, .inr (.inr ⟨H.next, 0, rfl, rfl, by simp, e.cells, own, by simp, by simp, by simp⟩)⟩
namespace F15
theorem ok (H : Heap) : ∃ H', Ce 15 [] H = some (.bool true, H') ∧ Keep H.next H H' := by
  let e : Ie := ⟨⟨2, 0, 0, -2, []⟩, none, 0, 0⟩
  have k1 : Keep H.next H (H.push (.row e.cells true)) := Keep.push _ (Nat.le_refl _)
  have hok : okL ([e].map Ie.v) := by decide
  obtain ⟨a', k', H', c, o, g⟩ := F16.ok (Ies.one H e true) (l := [e]) (fun x hx => by rw [List.mem_singleton.1 hx]; exact ⟨Ints.nil, by show 0 ≤ _; omega⟩) (by omega)
  rw [if_pos hok] at c
  have en : encO ([e].map Ie.v) = [1, 2, 2, 255, 254] := by unfold encO; rw [if_pos hok]; decide +kernel
  rw [en] at c o
  refine ⟨H', call ⟨_, rfl, _, _, _, _, _, c, ?_⟩, k1.trans (g.weak (by simp))⟩
  rw [if_pos rfl]
  refine ⟨_, o.sl.str, ?_⟩
  have : ((strOfNums [1, 2, 2, 255, 254]).toList == (strC [1, 2, 2, 255, 254]).toList) = true := by decide +kernel
  rw [this]
end F15
end Go.X
