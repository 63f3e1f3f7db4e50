/- Packets as bytes: the plain laws; what is written. -/
import Derived.Test.YtdnokmjobpbhhaaXzLr5
import Derived.Test.YtdnokmjobpbhhaaXzLc3
import Derived.Test.YtdnokmjobpbhhaaXzBy
import Derived.Test.YtdnokmjobpbhhaaXzTcE
set_option linter.unusedVariables false
set_option linter.unusedSimpArgs false
set_option maxRecDepth 20000
namespace Go.X
open Go Go.RowKit Go.Proofs
theorem textBits_eq : textBits = tbits := rfl
def encV (v : PV) : List Int := [v.f, v.t] ++ beB v.n 6 ++ [v.l, (v.path.length : Int)] ++ v.path ++ [(v.data.length : Int)] ++ v.data
def decV (bs : List Int) : PV × Int :=
  let c := bs.getD 9 0
  let k := bs.getD (10 + c.toNat) 0
  let v : PV := ⟨bs.getD 0 0, bs.getD 1 0, beV ((bs.drop 2).take 6), bs.getD 8 0, (bs.drop 10).take c.toNat, (bs.drop (11 + c.toNat)).take k.toNat⟩
  if bs.length < 10 then (pv0, 2) else if c > 16 then (pv0, 3) else if bs.length < 11 + c.toNat then (pv0, 2) else if ¬(1 ≤ k ∧ k ≤ 24) then (pv0, 3)
  else if bs.length < 11 + c.toNat + k.toNat then (pv0, 2) else if 11 + c.toNat + k.toNat < bs.length then (pv0, 3) else if mayP v then (v, 0) else (pv0, 3)
theorem node_byte {x : Int} (h : nodeP x) : 0 ≤ x ∧ x < 256 := ⟨h.1, by have := h.2; omega⟩
theorem encV_isB {v : PV} (h : mayP v) (hd : IsB v.data) : IsB (encV v) := by
  obtain ⟨h1, h2, h3, h4, h5, h6, h7⟩ := h
  have h8 := h6.2.2
  intro x hx
  unfold encV at hx
  simp only [List.mem_append, List.mem_cons, List.not_mem_nil, or_false] at hx
  rcases hx with ((((h | h) | h) | h) | h) | h
  · rcases h with rfl | rfl
    · exact node_byte h1
    · exact node_byte h2
  · exact beB_isB _ _ x h
  · rcases h with rfl | rfl
    · omega
    · omega
  · exact node_byte (h6.1 x h)
  · subst h; omega
  · exact hd x h
theorem encV_len (v : PV) : (encV v).length = 11 + v.path.length + v.data.length := by
  unfold encV; simp [beB_len]; omega
theorem dec_enc {v : PV} (h : mayP v) : decV (encV v) = (v, 0) := by
  have hl := encV_len v
  have hb := beB_len v.n 6
  obtain ⟨h1, h2, h3, h4, h5, h6, h7⟩ := id h
  have h8 := h6.2.2
  have e : encV v = v.f :: v.t :: (beB v.n 6 ++ (v.l :: (v.path.length : Int) :: (v.path ++ ((v.data.length : Int) :: v.data)))) := by unfold encV; simp
  have ed2 : (encV v).drop 2 = beB v.n 6 ++ (v.l :: (v.path.length : Int) :: (v.path ++ ((v.data.length : Int) :: v.data))) := by rw [e]; rfl
  have ed8 : (encV v).drop 8 = v.l :: (v.path.length : Int) :: (v.path ++ ((v.data.length : Int) :: v.data)) := by
    have : (encV v).drop 8 = ((encV v).drop 2).drop 6 := by rw [List.drop_drop]
    rw [this, ed2, List.drop_left' hb]
  have ed10 : (encV v).drop 10 = v.path ++ ((v.data.length : Int) :: v.data) := by
    have : (encV v).drop 10 = ((encV v).drop 8).drop 2 := by rw [List.drop_drop]
    rw [this, ed8]; rfl
  have edk : (encV v).drop (10 + v.path.length) = (v.data.length : Int) :: v.data := by
    have : (encV v).drop (10 + v.path.length) = ((encV v).drop 10).drop v.path.length := by rw [List.drop_drop]
    rw [this, ed10, List.drop_left]
  have edd : (encV v).drop (11 + v.path.length) = v.data := by
    have : (encV v).drop (11 + v.path.length) = ((encV v).drop (10 + v.path.length)).drop 1 := by rw [List.drop_drop]; congr 1; omega
    rw [this, edk]; rfl
  have gd : ∀ (i : Nat) (x : Int) (r : List Int), (encV v).drop i = x :: r → (encV v).getD i 0 = x := fun i x r h => by rw [List.getD, drop_get h]; rfl
  have g0 : (encV v).getD 0 0 = v.f := gd 0 _ _ (by rw [List.drop_zero]; exact e)
  have g1 : (encV v).getD 1 0 = v.t := gd 1 _ _ (by rw [e]; rfl)
  have g8 : (encV v).getD 8 0 = v.l := gd 8 _ _ ed8
  have g9 : (encV v).getD 9 0 = (v.path.length : Int) := gd 9 _ _ (by
    have : (encV v).drop 9 = ((encV v).drop 8).drop 1 := by rw [List.drop_drop]
    rw [this, ed8]; rfl)
  have gk : (encV v).getD (10 + v.path.length) 0 = (v.data.length : Int) := gd _ _ _ edk
  have ev : (⟨(encV v).getD 0 0, (encV v).getD 1 0, beV (((encV v).drop 2).take 6), (encV v).getD 8 0, ((encV v).drop 10).take v.path.length, ((encV v).drop (11 + v.path.length)).take v.data.length⟩ : PV) = v := by
    rw [g0, g1, g8, ed2, List.take_left' hb, beV_beB (by omega) h4.1 (by have := h4.2; show v.n < 2 ^ 48; omega), ed10, List.take_left, edd, List.take_length]
  unfold decV
  simp only
  rw [g9, Int.toNat_natCast, gk, Int.toNat_natCast, if_neg (by omega), if_neg (by omega), if_neg (by omega), if_neg (by omega), if_neg (by omega), if_neg (by omega), ev, if_pos h]
theorem list_split {bs : List Int} {i : Nat} (h : i < bs.length) : bs.drop i = bs.getD i 0 :: bs.drop (i + 1) := by rw [List.drop_eq_getElem_cons h]; simp [List.getD, h]
theorem enc_dec {bs : List Int} {v : PV} (hb : IsB bs) (h : decV bs = (v, 0)) : encV v = bs ∧ mayP v := by
  unfold decV at h
  simp only at h
  split at h
  · cases h
  split at h
  · cases h
  split at h
  · cases h
  split at h
  · cases h
  split at h
  · cases h
  split at h
  · cases h
  split at h
  · rename_i h1 h2 h3 h4 h5 h6 h7
    obtain ⟨rfl, _⟩ := Prod.mk.inj h
    refine ⟨?_, h7⟩
    generalize hc : (bs.getD 9 0).toNat = c at *
    generalize hk : (bs.getD (10 + c) 0).toNat = k at *
    have c0 := hb.get (i := 9) (x := bs.getD 9 0) (by simp [List.getD, List.getElem?_eq_getElem (show 9 < bs.length by omega)])
    have hcc : bs.getD 9 0 = (c : Int) := by omega
    have hkk : bs.getD (10 + c) 0 = (k : Int) := by omega
    have lc : ((bs.drop 10).take c).length = c := by simp; omega
    have lk : ((bs.drop (11 + c)).take k).length = k := by simp; omega
    have l6 : ((bs.drop 2).take 6).length = 6 := by simp; omega
    have hb6 : IsB ((bs.drop 2).take 6) := fun x hx => hb x (List.mem_of_mem_drop (List.mem_of_mem_take hx))
    unfold encV
    simp only
    rw [lc, lk, beB_beV l6 (by omega) hb6]
    have s0 := list_split (bs := bs) (i := 0) (by omega)
    have s1 := list_split (bs := bs) (i := 1) (by omega)
    have s8 := list_split (bs := bs) (i := 8) (by omega)
    have s9 := list_split (bs := bs) (i := 9) (by omega)
    have sk := list_split (bs := bs) (i := 10 + c) (by omega)
    have t2 : bs.drop 2 = (bs.drop 2).take 6 ++ bs.drop 8 := by
      have : bs.drop 8 = (bs.drop 2).drop 6 := by rw [List.drop_drop]
      rw [this, List.take_append_drop]
    have t10 : bs.drop 10 = (bs.drop 10).take c ++ bs.drop (10 + c) := by
      have : bs.drop (10 + c) = (bs.drop 10).drop c := by rw [List.drop_drop]
      rw [this, List.take_append_drop]
    have td : bs.drop (11 + c) = (bs.drop (11 + c)).take k := by rw [List.take_of_length_le (by simp; omega)]
    rw [List.drop_zero] at s0
    conv => rhs; rw [s0, s1, t2, s8, s9, t10, sk, show 10 + c + 1 = 11 + c by omega, td, hcc, hkk]
    simp
  · cases h
namespace F41
variable {G : Heap} {p : Nat}
theorem l0 {pk : Pk} {P : Nat} (hp : PkOk G pk) (hm : mayP pk.v) (hG : G.next ≤ p) (hP : P < G.next) (hg : G.get P = .row pk.cells true) : ∀ (rest : List Int) (j : Nat) (L : List Bool) (a : Option Addr) (n k : Nat) (H : Heap), pk.v.path.drop j = rest → j + rest.length = pk.v.path.length → WR H p L a n k → L.length + 8 * rest.length ≤ 4096 → Keep G.next G H → (∀ b, In1 a b → G.next ≤ b) →
    ∃ a' k' H', L0 P 0 p 0 pk.pa pk.v.path.length pk.pk (pk.v.path.length : Int) (j : Int) H (.tuple #[.slice a' (pack (L ++ tbits rest ++ tbits [(pk.v.data.length : Int)] ++ tbits pk.v.data)).length k', .int .i64 0], H') ∧ OwnI .u8 G.next H' a' (pack (L ++ tbits rest ++ tbits [(pk.v.data.length : Int)] ++ tbits pk.v.data)).length k' (pack (L ++ tbits rest ++ tbits [(pk.v.data.length : Int)] ++ tbits pk.v.data)) ∧ Keep G.next G H' := by
  obtain ⟨_, _, _, _, _, hpp, hdd⟩ := hm
  intro rest
  induction rest with
  | nil =>
    intro j L a n k H hd hj h hL hk ha
    simp only [List.length_nil] at hj
    have g1 : H.get P = .row pk.cells true := by rw [hk.get _ hP]; exact hg
    obtain ⟨a1, n1, k1, H1, c1, w1, f1⟩ := F14.ok (v := BitVec.ofInt 64 (pk.v.data.length : Int)) h (width := 8) (by omega) (by simp at hL; omega)
    have hk1 := hk.trans (f1.keep hk.next hG ha)
    have ha1 : ∀ b, In1 a1 b → G.next ≤ b := fun b hb => by
      rcases f1.arr b hb with e | e
      · exact ha b e
      · have := hk.next; omega
    have g2 : H1.get P = .row pk.cells true := by rw [hk1.get _ hP]; exact hg
    obtain ⟨a2, n2, k2, H2, c2, w2, f2⟩ := F39.ok (base := 0) hp.data hk1 w1 (by omega) (by rw [List.length_append, seg_len]; simp at hL; omega) hG ha1
    have hk2 := hk1.trans (f2.keep hk1.next hG ha1)
    have e : L ++ bitsN (BitVec.ofInt 64 (pk.v.data.length : Int)) 8 ++ textBits pk.v.data = L ++ tbits [] ++ tbits [(pk.v.data.length : Int)] ++ tbits pk.v.data := by
      rw [tbits_one, textBits_eq]; simp [tbits]
    rw [e] at w2
    obtain ⟨a3, k3, H3, c3, o3, g3⟩ := F16.ok w2 (by rw [← e]; simp [textBits_len, seg_len]; simp at hL; omega)
    refine ⟨a3, k3, H3, L0_step ?_, o3.weak hk2.next, hk2.trans (g3.weak hk2.next)⟩
    rw [if_neg (by omega)]
    refine ⟨_, _, _, rldc' g1 5, H1, ?_, _, _, _, rldc' g2 5, H2, c2, _, _, _, _, c3, rfl⟩
    rw [wrap_nb (k := .u64) rfl]; exact c1
  | cons x rest ih =>
    intro j L a n k H hd hj h hL hk ha
    simp only [List.length_cons] at hj hL
    have hx := drop_get hd
    have s := hp.path.keep hk
    have h16 := hpp.2.2
    obtain ⟨b, o, hb⟩ := s.at (by omega)
    rw [hb] at s
    obtain ⟨a1, n1, k1, H1, c1, w1, f1⟩ := F14.ok (v := BitVec.ofInt 64 x) h (width := 8) (by omega) (by omega)
    have hk1 := hk.trans (f1.keep hk.next hG ha)
    have ha1 : ∀ b, In1 a1 b → G.next ≤ b := fun b hb => by
      rcases f1.arr b hb with e | e
      · exact ha b e
      · have := hk.next; omega
    obtain ⟨a', k', H', z, o', g'⟩ := ih (j + 1) _ a1 n1 k1 H1 (drop_next hd) (by omega) w1 (by rw [List.length_append, seg_len]; omega) hk1 ha1
    have e : L ++ bitsN (BitVec.ofInt 64 x) 8 ++ tbits rest = L ++ tbits (x :: rest) := by
      rw [show x :: rest = [x] ++ rest from rfl, tbits_append, tbits_one, List.append_assoc]
    rw [e] at z o'
    refine ⟨a', k', H', L0_step ?_, o', g'⟩
    rw [if_pos (by omega)]
    refine ⟨b, o, hb, by omega, by omega, x, Ints.get s hx, H1, ?_, ?_⟩
    · rw [wrap_nb (k := .u64) rfl]; exact c1
    · rw [i64 (by omega) (by omega), ← hb]; exact_mod_cast z
theorem ok {H : Heap} {pk : Pk} (hp : PkOk H pk) (hb : IsB pk.v.data) : ∃ a' k' H', Cr 41 [pk.agg] H = some (.tuple #[.slice a' (if mayP pk.v then encV pk.v else []).length k', .int .i64 (if mayP pk.v then 0 else 1)], H') ∧ OwnI .u8 H.next H' a' (if mayP pk.v then encV pk.v else []).length k' (if mayP pk.v then encV pk.v else []) ∧ Keep H.next H H' := by
  obtain ⟨H1, e1, n1, g1, k1⟩ := one H pk.cells
  have h1 := hp.keep k1
  obtain ⟨H2, c2, p2⟩ := F28.ok h1
  have hn2 := p2.next
  have k2 : Keep H.next H H2 := k1.trans (p2.weak (by omega))
  by_cases hm : mayP pk.v
  · rw [if_pos hm, if_pos hm]
    have h2 := h1.keep p2
    have g2 : H2.get H.next = .row pk.cells true := by rw [p2.get _ (by omega)]; exact g1
    have w0 := WR.mk0 H2
    have k3 : Keep H2.next H2 (H2.push (.row [.slice none 0 0, .int .i64 0] true)) := Keep.push _ (Nat.le_refl _)
    generalize E3 : H2.push (.row [.slice none 0 0, .int .i64 0] true) = H3 at w0 k3
    obtain ⟨a4, m4, j4, H4, c4, w4, f4⟩ := F14.ok (v := BitVec.ofInt 64 pk.v.f) w0 (width := 8) (by omega) (by simp)
    obtain ⟨a5, m5, j5, H5, c5, w5, f5⟩ := F14.ok (v := BitVec.ofInt 64 pk.v.t) w4 (width := 8) (by omega) (by simp [seg_len])
    obtain ⟨a6, m6, j6, H6, c6, w6, f6⟩ := F14.ok (v := BitVec.ofInt 64 pk.v.n) w5 (width := 48) (by omega) (by simp [seg_len])
    obtain ⟨a7, m7, j7, H7, c7, w7, f7⟩ := F14.ok (v := BitVec.ofInt 64 pk.v.l) w6 (width := 8) (by omega) (by simp [seg_len])
    obtain ⟨a8, m8, j8, H8, c8, w8, f8⟩ := F14.ok (v := BitVec.ofInt 64 (pk.v.path.length : Int)) w7 (width := 8) (by omega) (by simp [seg_len])
    have t5 := f4.trans f5
    have t6 := t5.trans f6
    have t7 := t6.trans f7
    have t8 := t7.trans f8
    have kk : ∀ {a X}, Ft H2.next none a H3 X → Keep H2.next H2 X := fun f => k3.trans (f.keep k3.next (Nat.le_refl _) fun b hb => absurd hb In1.none)
    have gg : ∀ {a X}, Ft H2.next none a H3 X → X.get H.next = .row pk.cells true := fun f => by rw [(kk f).get _ (by omega)]; exact g2
    have g3 : H3.get H.next = .row pk.cells true := by rw [k3.get _ (by omega)]; exact g2
    have eL : [] ++ bitsN (BitVec.ofInt 64 pk.v.f) 8 ++ bitsN (BitVec.ofInt 64 pk.v.t) 8 ++ bitsN (BitVec.ofInt 64 pk.v.n) 48 ++ bitsN (BitVec.ofInt 64 pk.v.l) 8 ++ bitsN (BitVec.ofInt 64 (pk.v.path.length : Int)) 8 = tbits ([pk.v.f, pk.v.t] ++ beB pk.v.n 6 ++ [pk.v.l, (pk.v.path.length : Int)]) := by
      rw [tbits_append, tbits_append, tbits_beB, show [pk.v.f, pk.v.t] = [pk.v.f] ++ [pk.v.t] from rfl, show [pk.v.l, (pk.v.path.length : Int)] = [pk.v.l] ++ [(pk.v.path.length : Int)] from rfl, tbits_append, tbits_append, tbits_one, tbits_one, tbits_one, tbits_one]
      simp
    rw [eL] at w8
    have hpl := hm.2.2.2.2.2.1.2.2
    obtain ⟨a9, j9, H9, z, o9, k9⟩ := l0 (G := H2) (p := H2.next) (P := H.next) h2 hm (Nat.le_refl _) (by omega) g2 pk.v.path 0 _ a8 m8 j8 H8 rfl (by omega) w8 (by rw [tbits_len]; simp [beB_len]; omega) (kk t8) (fun b hb => by
      rcases t8.arr b hb with e | e
      · exact absurd e In1.none
      · have := k3.next; omega)
    have eE : tbits ([pk.v.f, pk.v.t] ++ beB pk.v.n 6 ++ [pk.v.l, (pk.v.path.length : Int)]) ++ tbits pk.v.path ++ tbits [(pk.v.data.length : Int)] ++ tbits pk.v.data = tbits (encV pk.v) := by
      unfold encV; rw [tbits_append _ pk.v.data, tbits_append _ [(pk.v.data.length : Int)], tbits_append _ pk.v.path]
    rw [eE, pack_tbits (encV_isB hm hb)] at z o9
    refine ⟨a9, j9, H9, call ⟨_, e1, _, _, _, _, _, _, _, _, _, _, rldAll g1, _, _, c2, ?_⟩, o9.weak (by omega), k2.trans (k9.weak (by omega))⟩
    rw [if_pos (by simpa using hm)]
    refine ⟨H3, E3.symm, _, rldc' g3 0, H4, ?_, _, rldc' (gg f4) 1, H5, ?_, _, rldc' (gg t5) 2, H6, ?_, _, rldc' (gg t6) 3, H7, ?_, _, _, _, rldc' (gg t7) 4, H8, ?_, _, _, _, rldc' (gg t8) 4, z⟩
    · rw [wrap_nb (k := .u64) rfl]; exact c4
    · rw [wrap_nb (k := .u64) rfl]; exact c5
    · rw [wrap_nb (k := .u64) rfl]; exact c6
    · rw [wrap_nb (k := .u64) rfl]; exact c7
    · rw [wrap_nb (k := .u64) rfl]; exact c8
  · rw [if_neg hm, if_neg hm]
    refine ⟨none, 0, H2, call ⟨_, e1, _, _, _, _, _, _, _, _, _, _, rldAll g1, _, _, c2, ?_⟩, OwnI.nil, k2⟩
    rw [if_neg (by simpa using hm)]
    rfl
end F41
end Go.X
