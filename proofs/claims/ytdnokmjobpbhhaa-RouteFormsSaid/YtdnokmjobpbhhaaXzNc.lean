/- Packets as bytes: the plain laws; what is written. -/
import Derived.Test.YtdnokmjobpbhhaaXzNa
import Derived.Test.YtdnokmjobpbhhaaXzNb
import Derived.Test.YtdnokmjobpbhhaaXzBy
import Derived.Test.YtdnokmjobpbhhaaXzTcE
set_option linter.unusedVariables false
set_option linter.unusedSimpArgs false
set_option maxRecDepth 20000
namespace Go.X
open Go Go.RowKit Go.Proofs
theorem textBits_eq : textBits = tbits := rfl
def encV (v : PV) : List Int := [v.f, v.t] ++ beB v.n 6 ++ [v.l, (v.path.length : Int)] ++ v.path ++ [(v.data.length : Int)] ++ v.data
def decV (bs : List Int) : PV × Int :=
  let c := bs.getD 9 0
  let k := bs.getD (10 + c.toNat) 0
  let v : PV := ⟨bs.getD 0 0, bs.getD 1 0, beV ((bs.drop 2).take 6), bs.getD 8 0, (bs.drop 10).take c.toNat, (bs.drop (11 + c.toNat)).take k.toNat⟩
  if bs.length < 10 then (pv0, 2) else if c > 16 then (pv0, 3) else if bs.length < 11 + c.toNat then (pv0, 2) else if ¬(1 ≤ k ∧ k ≤ 24) then (pv0, 3)
  else if bs.length < 11 + c.toNat + k.toNat then (pv0, 2) else if 11 + c.toNat + k.toNat < bs.length then (pv0, 3) else if mayP v then (v, 0) else (pv0, 3)
theorem node_byte {x : Int} (h : nodeP x) : 0 ≤ x ∧ x < 256 := ⟨h.1, by have := h.2; omega⟩
theorem encV_isB {v : PV} (h : mayP v) (hd : IsB v.data) : IsB (encV v) := by
  obtain ⟨h1, h2, h3, h4, h5, h6, h7⟩ := h
  have h8 := h6.2.2
  intro x hx
  unfold encV at hx
  simp only [List.mem_append, List.mem_cons, List.not_mem_nil, or_false] at hx
  rcases hx with ((((h | h) | h) | h) | h) | h
  · rcases h with rfl | rfl
    · exact node_byte h1
    · exact node_byte h2
  · exact beB_isB _ _ x h
  · rcases h with rfl | rfl
    · omega
    · omega
  · exact node_byte (h6.1 x h)
  · subst h; omega
  · exact hd x h
theorem encV_len (v : PV) : (encV v).length = 11 + v.path.length + v.data.length := by
  unfold encV; simp [beB_len]; omega
theorem dec_enc {v : PV} (h : mayP v) : decV (encV v) = (v, 0) := by
  have hl := encV_len v
  have hb := beB_len v.n 6
  obtain ⟨h1, h2, h3, h4, h5, h6, h7⟩ := id h
  have h8 := h6.2.2
  have e : encV v = v.f :: v.t :: (beB v.n 6 ++ (v.l :: (v.path.length : Int) :: (v.path ++ ((v.data.length : Int) :: v.data)))) := by unfold encV; simp
  have ed2 : (encV v).drop 2 = beB v.n 6 ++ (v.l :: (v.path.length : Int) :: (v.path ++ ((v.data.length : Int) :: v.data))) := by rw [e]; rfl
  have ed8 : (encV v).drop 8 = v.l :: (v.path.length : Int) :: (v.path ++ ((v.data.length : Int) :: v.data)) := by
    have : (encV v).drop 8 = ((encV v).drop 2).drop 6 := by rw [List.drop_drop]
    rw [this, ed2, List.drop_left' hb]
  have ed10 : (encV v).drop 10 = v.path ++ ((v.data.length : Int) :: v.data) := by
    have : (encV v).drop 10 = ((encV v).drop 8).drop 2 := by rw [List.drop_drop]
    rw [this, ed8]; rfl
  have edk : (encV v).drop (10 + v.path.length) = (v.data.length : Int) :: v.data := by
    have : (encV v).drop (10 + v.path.length) = ((encV v).drop 10).drop v.path.length := by rw [List.drop_drop]
    rw [this, ed10, List.drop_left]
  have edd : (encV v).drop (11 + v.path.length) = v.data := by
    have : (encV v).drop (11 + v.path.length) = ((encV v).drop (10 + v.path.length)).drop 1 := by rw [List.drop_drop]; congr 1; omega
    rw [this, edk]; rfl
  have gd : ∀ (i : Nat) (x : Int) (r : List Int), (encV v).drop i = x :: r → (encV v).getD i 0 = x := fun i x r h => by rw [List.getD, drop_get h]; rfl
  have g0 : (encV v).getD 0 0 = v.f := gd 0 _ _ (by rw [List.drop_zero]; exact e)
  have g1 : (encV v).getD 1 0 = v.t := gd 1 _ _ (by rw [e]; rfl)
  have g8 : (encV v).getD 8 0 = v.l := gd 8 _ _ ed8
  have g9 : (encV v).getD 9 0 = (v.path.length : Int) := gd 9 _ _ (by
    have : (encV v).drop 9 = ((encV v).drop 8).drop 1 := by rw [List.drop_drop]
    rw [this, ed8]; rfl)
  have gk : (encV v).getD (10 + v.path.length) 0 = (v.data.length : Int) := gd _ _ _ edk
  have ev : (⟨(encV v).getD 0 0, (encV v).getD 1 0, beV (((encV v).drop 2).take 6), (encV v).getD 8 0, ((encV v).drop 10).take v.path.length, ((encV v).drop (11 + v.path.length)).take v.data.length⟩ : PV) = v := by
    rw [g0, g1, g8, ed2, List.take_left' hb, beV_beB (by omega) h4.1 (by have := h4.2; show v.n < 2 ^ 48; omega), ed10, List.take_left, edd, List.take_length]
  unfold decV
  simp only
  rw [g9, Int.toNat_natCast, gk, Int.toNat_natCast, if_neg (by omega), if_neg (by omega), if_neg (by omega), if_neg (by omega), if_neg (by omega), if_neg (by omega), ev, if_pos h]
theorem list_split {bs : List Int} {i : Nat} (h : i < bs.length) : bs.drop i = bs.getD i 0 :: bs.drop (i + 1) := by rw [List.drop_eq_getElem_cons h]; simp [List.getD, h]
theorem enc_dec {bs : List Int} {v : PV} (hb : IsB bs) (h : decV bs = (v, 0)) : encV v = bs ∧ mayP v := by
  unfold decV at h
  simp only at h
  split at h
  · cases h
  split at h
  · cases h
  split at h
  · cases h
  split at h
  · cases h
  split at h
  · cases h
  split at h
  · cases h
  split at h
  · rename_i h1 h2 h3 h4 h5 h6 h7
    obtain ⟨rfl, _⟩ := Prod.mk.inj h
    refine ⟨?_, h7⟩
    generalize hc : (bs.getD 9 0).toNat = c at *
    generalize hk : (bs.getD (10 + c) 0).toNat = k at *
    have c0 := hb.get (i := 9) (x := bs.getD 9 0) (by simp [List.getD, List.getElem?_eq_getElem (show 9 < bs.length by omega)])
    have hcc : bs.getD 9 0 = (c : Int) := by omega
    have hkk : bs.getD (10 + c) 0 = (k : Int) := by omega
    have lc : ((bs.drop 10).take c).length = c := by simp; omega
    have lk : ((bs.drop (11 + c)).take k).length = k := by simp; omega
    have l6 : ((bs.drop 2).take 6).length = 6 := by simp; omega
    have hb6 : IsB ((bs.drop 2).take 6) := fun x hx => hb x (List.mem_of_mem_drop (List.mem_of_mem_take hx))
    unfold encV
    simp only
    rw [lc, lk, beB_beV l6 (by omega) hb6]
    have s0 := list_split (bs := bs) (i := 0) (by omega)
    have s1 := list_split (bs := bs) (i := 1) (by omega)
    have s8 := list_split (bs := bs) (i := 8) (by omega)
    have s9 := list_split (bs := bs) (i := 9) (by omega)
    have sk := list_split (bs := bs) (i := 10 + c) (by omega)
    have t2 : bs.drop 2 = (bs.drop 2).take 6 ++ bs.drop 8 := by
      have : bs.drop 8 = (bs.drop 2).drop 6 := by rw [List.drop_drop]
      rw [this, List.take_append_drop]
    have t10 : bs.drop 10 = (bs.drop 10).take c ++ bs.drop (10 + c) := by
      have : bs.drop (10 + c) = (bs.drop 10).drop c := by rw [List.drop_drop]
      rw [this, List.take_append_drop]
    have td : bs.drop (11 + c) = (bs.drop (11 + c)).take k := by rw [List.take_of_length_le (by simp; omega)]
    rw [List.drop_zero] at s0
    conv => rhs; rw [s0, s1, t2, s8, s9, t10, sk, show 10 + c + 1 = 11 + c by omega, td, hcc, hkk]
    simp
  · cases h
namespace F41
variable {G : Heap} {p : Nat}
theorem l0 {pk : Pk} {P : Nat} (hp : PkOk G pk) (hm : mayP pk.v) (hG : G.next ≤ p) (hP : P < G.next) (hg : G.get P = .row pk.cells true) : ∀ (rest : List Int) (j : Nat) (L : List Bool) (a : Option Addr) (n k : Nat) (H : Heap), pk.v.path.drop j = rest → j + rest.length = pk.v.path.length → WR H p L a n k → L.length + 8 * rest.length ≤ 4096 → Keep G.next G H → (∀ b, In1 a b → G.next ≤ b) →
    ∃ a' k' H', L0 P 0 p 0 pk.pa pk.v.path.length pk.pk (pk.v.path.length : Int) (j : Int) H (.tuple #[.slice a' (pack (L ++ tbits rest ++ tbits [(pk.v.data.length : Int)] ++ tbits pk.v.data)).length k', .int .i64 0], H') ∧ OwnI .u8 G.next H' a' (pack (L ++ tbits rest ++ tbits [(pk.v.data.length : Int)] ++ tbits pk.v.data)).length k' (pack (L ++ tbits rest ++ tbits [(pk.v.data.length : Int)] ++ tbits pk.v.data)) ∧ Keep G.next G H' := by
  obtain ⟨_, _, _, _, _, hpp, hdd⟩ := hm
  intro rest
  induction rest with
  | nil =>
    intro j L a n k H hd hj h hL hk ha
    simp only [List.length_nil] at hj
    have g1 : H.get P = .row pk.cells true := by rw [hk.get _ hP]; exact hg
    obtain ⟨a1, n1, k1, H1, c1, w1, f1⟩ := F14.ok (v := BitVec.ofInt 64 (pk.v.data.length : Int)) h (width := 8) (by omega) (by simp at hL; omega)
    have hk1 := hk.trans (f1.keep hk.next hG ha)
    have ha1 : ∀ b, In1 a1 b → G.next ≤ b := fun b hb => by
      rcases f1.arr b hb with e | e
      · exact ha b e
      · have := hk.next; omega
    have g2 : H1.get P = .row pk.cells true := by rw [hk1.get _ hP]; exact hg
    obtain ⟨a2, n2, k2, H2, c2, w2, f2⟩ := F39.ok (base := 0) hp.data hk1 w1 (by omega) (by rw [List.length_append, seg_len]; simp at hL; omega) hG ha1
    have hk2 := hk1.trans (f2.keep hk1.next hG ha1)
    have e : L ++ bitsN (BitVec.ofInt 64 (pk.v.data.length : Int)) 8 ++ textBits pk.v.data = L ++ tbits [] ++ tbits [(pk.v.data.length : Int)] ++ tbits pk.v.data := by
      rw [tbits_one, textBits_eq]; simp [tbits]
    rw [e] at w2
    obtain ⟨a3, k3, H3, c3, o3, g3⟩ := F16.ok w2 (by rw [← e]; simp [textBits_len, seg_len]; simp at hL; omega)
    refine ⟨a3, k3, H3, L0_step ?_, o3.weak hk2.next, hk2.trans (g3.weak hk2.next)⟩
    rw [if_neg (by omega)]
    refine ⟨_, _, _, rldc' g1 5, H1, ?_, _, _, _, rldc' g2 5, H2, c2, _, _, _, _, c3, rfl⟩
    rw [wrap_nb (k := .u64) rfl]; exact c1
  | cons x rest ih =>
    intro j L a n k H hd hj h hL hk ha
    simp only [List.length_cons] at hj hL
    have hx := drop_get hd
    have s := hp.path.keep hk
    have h16 := hpp.2.2
    obtain ⟨b, o, hb⟩ := s.at (by omega)
    rw [hb] at s
    obtain ⟨a1, n1, k1, H1, c1, w1, f1⟩ := F14.ok (v := BitVec.ofInt 64 x) h (width := 8) (by omega) (by omega)
    have hk1 := hk.trans (f1.keep hk.next hG ha)
    have ha1 : ∀ b, In1 a1 b → G.next ≤ b := fun b hb => by
      rcases f1.arr b hb with e | e
      · exact ha b e
      · have := hk.next; omega
    obtain ⟨a', k', H', z, o', g'⟩ := ih (j + 1) _ a1 n1 k1 H1 (drop_next hd) (by omega) w1 (by rw [List.length_append, seg_len]; omega) hk1 ha1
    have e : L ++ bitsN (BitVec.ofInt 64 x) 8 ++ tbits rest = L ++ tbits (x :: rest) := by
      rw [show x :: rest = [x] ++ rest from rfl, tbits_append, tbits_one, List.append_assoc]
    rw [e] at z o'
    refine ⟨a', k', H', L0_step ?_, o', g'⟩
    rw [if_pos (by omega)]
    refine ⟨b, o, hb, by omega, by omega, x, Ints.get s hx, H1, ?_, ?_⟩
    · rw [wrap_nb (k := .u64) rfl]; exact c1
    · rw [i64 (by omega) (by omega), ← hb]; exact_mod_cast z
theorem ok {H : Heap} {pk : Pk} (hp : PkOk H pk) (hb : IsB pk.v.data) : ∃ a' k' H', Cr 41 [pk.agg] H = some (.tuple #[.slice a' (if mayP pk.v then encV pk.v else []).length k', .int .i64 (if mayP pk.v then 0 else 1)], H') ∧ OwnI .u8 H.next H' a' (if mayP pk.v then encV pk.v else []).length k' (if mayP pk.v then encV pk.v else []) ∧ Keep H.next H H' := by
  obtain ⟨H1, e1, n1, g1, k1⟩ := one H pk.cells
  have h1 := hp.keep k1
  obtain ⟨H2, c2, p2⟩ := F28.ok h1
  have hn2 := p2.next
  have k2 : Keep H.next H H2 := k1.trans (p2.weak (by omega))
  by_cases hm : mayP pk.v
  · rw [if_pos hm, if_pos hm]
    have h2 := h1.keep p2
    have g2 : H2.get H.next = .row pk.cells true := by rw [p2.get _ (by omega)]; exact g1
    have w0 := WR.mk0 H2
    have k3 : Keep H2.next H2 (H2.push (.row [.slice none 0 0, .int .i64 0] true)) := Keep.push _ (Nat.le_refl _)
    generalize E3 : H2.push (.row [.slice none 0 0, .int .i64 0] true) = H3 at w0 k3
    obtain ⟨a4, m4, j4, H4, c4, w4, f4⟩ := F14.ok (v := BitVec.ofInt 64 pk.v.f) w0 (width := 8) (by omega) (by simp)
    obtain ⟨a5, m5, j5, H5, c5, w5, f5⟩ := F14.ok (v := BitVec.ofInt 64 pk.v.t) w4 (width := 8) (by omega) (by simp [seg_len])
    obtain ⟨a6, m6, j6, H6, c6, w6, f6⟩ := F14.ok (v := BitVec.ofInt 64 pk.v.n) w5 (width := 48) (by omega) (by simp [seg_len])
    obtain ⟨a7, m7, j7, H7, c7, w7, f7⟩ := F14.ok (v := BitVec.ofInt 64 pk.v.l) w6 (width := 8) (by omega) (by simp [seg_len])
    obtain ⟨a8, m8, j8, H8, c8, w8, f8⟩ := F14.ok (v := BitVec.ofInt 64 (pk.v.path.length : Int)) w7 (width := 8) (by omega) (by simp [seg_len])
    have t5 := f4.trans f5
    have t6 := t5.trans f6
    have t7 := t6.trans f7
    have t8 := t7.trans f8
    have kk : ∀ {a X}, Ft H2.next none a H3 X → Keep H2.next H2 X := fun f => k3.trans (f.keep k3.next (Nat.le_refl _) fun b hb => absurd hb In1.none)
    have gg : ∀ {a X}, Ft H2.next none a H3 X → X.get H.next = .row pk.cells true := fun f => by rw [(kk f).get _ (by omega)]; exact g2
    have g3 : H3.get H.next = .row pk.cells true := by rw [k3.get _ (by omega)]; exact g2
    have eL : [] ++ bitsN (BitVec.ofInt 64 pk.v.f) 8 ++ bitsN (BitVec.ofInt 64 pk.v.t) 8 ++ bitsN (BitVec.ofInt 64 pk.v.n) 48 ++ bitsN (BitVec.ofInt 64 pk.v.l) 8 ++ bitsN (BitVec.ofInt 64 (pk.v.path.length : Int)) 8 = tbits ([pk.v.f, pk.v.t] ++ beB pk.v.n 6 ++ [pk.v.l, (pk.v.path.length : Int)]) := by
      rw [tbits_append, tbits_append, tbits_beB, show [pk.v.f, pk.v.t] = [pk.v.f] ++ [pk.v.t] from rfl, show [pk.v.l, (pk.v.path.length : Int)] = [pk.v.l] ++ [(pk.v.path.length : Int)] from rfl, tbits_append, tbits_append, tbits_one, tbits_one, tbits_one, tbits_one]
      simp
    rw [eL] at w8
    have hpl := hm.2.2.2.2.2.1.2.2
    obtain ⟨a9, j9, H9, z, o9, k9⟩ := l0 (G := H2) (p := H2.next) (P := H.next) h2 hm (Nat.le_refl _) (by omega) g2 pk.v.path 0 _ a8 m8 j8 H8 rfl (by omega) w8 (by rw [tbits_len]; simp [beB_len]; omega) (kk t8) (fun b hb => by
      rcases t8.arr b hb with e | e
      · exact absurd e In1.none
      · have := k3.next; omega)
    have eE : tbits ([pk.v.f, pk.v.t] ++ beB pk.v.n 6 ++ [pk.v.l, (pk.v.path.length : Int)]) ++ tbits pk.v.path ++ tbits [(pk.v.data.length : Int)] ++ tbits pk.v.data = tbits (encV pk.v) := by
      unfold encV; rw [tbits_append _ pk.v.data, tbits_append _ [(pk.v.data.length : Int)], tbits_append _ pk.v.path]
    rw [eE, pack_tbits (encV_isB hm hb)] at z o9
    refine ⟨a9, j9, H9, call ⟨_, e1, _, _, _, _, _, _, _, _, _, _, rldAll g1, _, _, c2, ?_⟩, o9.weak (by omega), k2.trans (k9.weak (by omega))⟩
    rw [if_pos (by simpa using hm)]
    refine ⟨H3, E3.symm, _, rldc' g3 0, H4, ?_, _, rldc' (gg f4) 1, H5, ?_, _, rldc' (gg t5) 2, H6, ?_, _, rldc' (gg t6) 3, H7, ?_, _, _, _, rldc' (gg t7) 4, H8, ?_, _, _, _, rldc' (gg t8) 4, z⟩
    · rw [wrap_nb (k := .u64) rfl]; exact c4
    · rw [wrap_nb (k := .u64) rfl]; exact c5
    · rw [wrap_nb (k := .u64) rfl]; exact c6
    · rw [wrap_nb (k := .u64) rfl]; exact c7
    · rw [wrap_nb (k := .u64) rfl]; exact c8
  · rw [if_neg hm, if_neg hm]
    refine ⟨none, 0, H2, call ⟨_, e1, _, _, _, _, _, _, _, _, _, _, rldAll g1, _, _, c2, ?_⟩, OwnI.nil, k2⟩
    rw [if_neg (by simpa using hm)]
    rfl
end F41
/-- The reader's state behind so many bytes. -/
def stR (bs : List Int) (j : Nat) : List Bool := if j ≤ bs.length then tbits (bs.drop j) else []
def stE (bs : List Int) (j : Nat) : Int := if j ≤ bs.length then 0 else 2
def stV (bs : List Int) (j w : Nat) : Int := if j + w ≤ bs.length then beV ((bs.drop j).take w) else 0
def stT (bs : List Int) (j m : Nat) : List Int := if j + m ≤ bs.length then (bs.drop j).take m else []
theorem tbits_take (bs : List Int) (w : Nat) : (tbits bs).take (8 * w) = tbits (bs.take w) := by
  by_cases h : w ≤ bs.length
  · have e : bs = bs.take w ++ bs.drop w := (List.take_append_drop w bs).symm
    conv => lhs; rw [e, tbits_append]
    rw [List.take_left' (by rw [tbits_len, List.length_take, Nat.min_eq_left h])]
  · rw [List.take_of_length_le (by rw [tbits_len]; omega), List.take_of_length_le (by omega)]
theorem tbits_drop (bs : List Int) (w : Nat) : (tbits bs).drop (8 * w) = tbits (bs.drop w) := by
  by_cases h : w ≤ bs.length
  · have e : bs = bs.take w ++ bs.drop w := (List.take_append_drop w bs).symm
    conv => lhs; rw [e, tbits_append]
    rw [List.drop_left' (by rw [tbits_len, List.length_take, Nat.min_eq_left h])]
  · rw [List.drop_eq_nil_of_le (by rw [tbits_len]; omega), List.drop_eq_nil_of_le (by omega)]; rfl
theorem takeS_st (bs : List Int) (j : Nat) {w : Nat} (h1 : 1 ≤ w) (h8 : w ≤ 8) : takeS (stR bs j) (stE bs j) ((8 * w : Nat) : Int) = (stV bs j w, stR bs (j + w), stE bs (j + w)) := by
  unfold stR stE stV takeS
  by_cases hj : j ≤ bs.length
  · rw [if_pos hj, if_pos hj, if_neg (by omega), tbits_len, List.length_drop]
    by_cases hw : j + w ≤ bs.length
    · rw [if_neg (by omega), if_pos hw, if_pos hw, if_pos hw, Int.toNat_natCast, tbits_take, tbits_drop, List.drop_drop]
      rfl
    · rw [if_pos (by omega), if_neg hw, if_neg hw, if_neg hw]
  · rw [if_neg hj, if_neg hj, if_pos (by omega), if_neg (by omega), if_neg (by omega), if_neg (by omega)]
theorem bytesOf_tbits {ys : List Int} (hb : IsB ys) {m : Nat} (h : m ≤ ys.length) : bytesOf (tbits ys) m = ys.take m := by
  apply List.ext_getElem?
  intro i
  by_cases hi : i < m
  · have hx : ys[i]? = some (ys.getD i 0) := by simp [List.getD, List.getElem?_eq_getElem (show i < ys.length by omega)]
    have hc := hb.get hx
    rw [List.getElem?_take, if_pos hi, hx]
    unfold bytesOf
    rw [List.getElem?_map, List.getElem?_range hi, Option.map_some, tbits_drop]
    have e : (tbits (ys.drop i)).take 8 = tbits [ys.getD i 0] := by
      rw [show 8 = 8 * 1 from rfl, tbits_take, list_split (show i < ys.length by omega)]; rfl
    have := beV_one hc
    unfold beV at this
    rw [e, this, wrap_nb (k := .u8) rfl, nb_ofInt hc.1 (by have := hc.2; show _ < (2 : Int) ^ 8; omega)]
  · rw [List.getElem?_eq_none (by rw [bytesOf_len]; omega), List.getElem?_eq_none (by simp; omega)]
theorem textS_st {bs : List Int} (hb : IsB bs) (j m : Nat) : textS (stR bs j) (stE bs j) (m : Int) = (stT bs j m, stR bs (j + m), stE bs (j + m)) := by
  unfold stR stE stT textS
  by_cases hj : j ≤ bs.length
  · rw [if_pos hj, if_pos hj, tbits_len, List.length_drop]
    by_cases hm : m = 0
    · subst hm
      rw [if_pos (by omega), if_pos (by omega), if_pos (by omega), if_pos (by omega)]; simp
    · rw [if_neg (by omega)]
      by_cases hw : j + m ≤ bs.length
      · rw [if_neg (by omega), if_pos hw, if_pos hw, if_pos hw, Int.toNat_natCast, tbits_drop, List.drop_drop, bytesOf_tbits (fun x hx => hb x (List.mem_of_mem_drop hx)) (by simp; omega)]
      · rw [if_pos (by omega), if_neg hw, if_neg hw, if_neg hw]
  · rw [if_neg hj, if_neg hj, if_pos (by omega), if_neg (by omega), if_neg (by omega), if_neg (by omega)]
theorem stV_one {bs : List Int} (hb : IsB bs) (j : Nat) : stV bs j 1 = bs.getD j 0 ∧ 0 ≤ bs.getD j 0 ∧ bs.getD j 0 < 256 := by
  unfold stV
  by_cases h : j + 1 ≤ bs.length
  · have hx : bs[j]? = some (bs.getD j 0) := by simp [List.getD, List.getElem?_eq_getElem (show j < bs.length by omega)]
    have hc := hb.get hx
    rw [if_pos h, list_split (show j < bs.length by omega)]
    exact ⟨beV_one hc, hc⟩
  · have : bs.getD j 0 = 0 := by rw [List.getD, List.getElem?_eq_none (by omega)]; rfl
    rw [if_neg h, this]; omega
section
variable {H : Heap} {p : Nat} {a : Option Addr} {bs : List Int} {j : Nat}
/-- A reader behind so many bytes. -/
abbrev RB (H : Heap) (p : Nat) (a : Option Addr) (bs : List Int) (j : Nat) : Prop := RM H p a (stR bs j) (stE bs j)
theorem RB.take (h : RB H p a bs j) {w : Nat} (h1 : 1 ≤ w) (h8 : w ≤ 8) : ∃ a2 H', Cc 18 [.pointer (some ⟨p, 0, none⟩), .int .i64 ((8 * w : Nat) : Int)] H = some (.int .u64 (stV bs j w), H') ∧ RB H' p a2 bs (j + w) ∧ Fd p a a2 H H' := by
  have := F18.all h ((8 * w : Nat) : Int)
  rw [takeS_st bs j h1 h8] at this
  exact this
theorem RB.text (hb : IsB bs) (h : RB H p a bs j) (m : Nat) : ∃ a2 a' k' H', Cc 31 [.pointer (some ⟨p, 0, none⟩), .int .i64 (m : Int)] H = some (.slice a' (stT bs j m).length k', H') ∧ OwnI .u8 H.next H' a' (stT bs j m).length k' (stT bs j m) ∧ RB H' p a2 bs (j + m) ∧ Fd p a a2 H H' := by
  have := F31.all h (m : Int)
  rw [textS_st hb] at this
  exact this
theorem RB.end_ (h : RB H p a bs j) : Cc 37 [.pointer (some ⟨p, 0, none⟩)] H = some (.int .i64 (if bs.length < j then 2 else if j < bs.length then 3 else 0), H) := by
  have := F37.ok h
  rw [this]
  congr 3
  unfold stE stR
  by_cases hj : j ≤ bs.length
  · rw [if_pos hj, if_pos hj, if_neg (show ¬bs.length < j by omega)]
    by_cases hj2 : j < bs.length
    · have : tbits (bs.drop j) ≠ [] := by intro e; have := congrArg List.length e; rw [tbits_len] at this; simp at this; omega
      rw [if_pos ⟨rfl, this⟩, if_pos hj2]
    · rw [List.drop_eq_nil_of_le (by omega), if_neg (by simp [tbits]), if_neg hj2]
  · rw [if_neg hj, if_neg hj, if_pos (show bs.length < j by omega), if_neg (by simp)]
theorem F69.ok (hb : IsB bs) (h : RB H p a bs j) : ∃ a2 H', Cc 69 [.pointer (some ⟨p, 0, none⟩)] H = some (.int .i64 (bs.getD j 0), H') ∧ RB H' p a2 bs (j + 1) ∧ Fd p a a2 H H' := by
  obtain ⟨a2, H', c, r, f⟩ := RB.take h (w := 1) (by omega) (by omega)
  obtain ⟨e, h0, h1⟩ := stV_one hb j
  rw [e] at c
  refine ⟨a2, H', F69.call ⟨_, _, c, ?_⟩, r, f⟩
  rw [i64 (by omega) (by omega)]
end
theorem RM.alt {H : Heap} {p : Nat} {a : Option Addr} {R : List Bool} {e : Int} (h : RM H p a R e) : ∀ b, In1 a b → b < H.next := by obtain ⟨n, k, B, at_, h⟩ := h; exact fun b hb => h.s.lt hb
def decW (bs : List Int) (c : Nat) : PV := ⟨bs.getD 0 0, bs.getD 1 0, stV bs 2 6, bs.getD 8 0, stT bs 10 c, stT bs (11 + c) (bs.getD (10 + c) 0).toNat⟩
def decT (bs : List Int) (c : Nat) : PV × Int :=
  let k := bs.getD (10 + c) 0
  if bs.length < 11 + c then (pv0, 2) else if ¬(1 ≤ k ∧ k ≤ 24) then (pv0, 3)
  else if bs.length < 11 + c + k.toNat then (pv0, 2) else if 11 + c + k.toNat < bs.length then (pv0, 3) else if mayP (decW bs c) then (decW bs c, 0) else (pv0, 3)
theorem decV_eq (bs : List Int) : decV bs = if bs.getD 9 0 > 16 then (pv0, 3) else decT bs (bs.getD 9 0).toNat := by
  unfold decV
  simp only
  by_cases h : bs.length < 10
  · have : bs.getD 9 0 = 0 := by rw [List.getD, List.getElem?_eq_none (by omega)]; rfl
    rw [if_pos h, this, if_neg (by omega)]
    unfold decT
    simp only
    rw [if_pos (show bs.length < 11 + Int.toNat 0 by simp; omega)]
  · rw [if_neg h]
    by_cases h16 : bs.getD 9 0 > 16
    · rw [if_pos h16, if_pos h16]
    · rw [if_neg h16, if_neg h16]
      unfold decT
      simp only
      by_cases h1 : bs.length < 11 + (bs.getD 9 0).toNat
      · rw [if_pos h1, if_pos h1]
      · rw [if_neg h1, if_neg h1]
        generalize (bs.getD 9 0).toNat = c at *
        by_cases h2 : ¬(1 ≤ bs.getD (10 + c) 0 ∧ bs.getD (10 + c) 0 ≤ 24)
        · rw [if_pos h2, if_pos h2]
        · rw [if_neg h2, if_neg h2]
          by_cases h3 : bs.length < 11 + c + (bs.getD (10 + c) 0).toNat
          · rw [if_pos h3, if_pos h3]
          · have e : decW bs c = ⟨bs.getD 0 0, bs.getD 1 0, beV ((bs.drop 2).take 6), bs.getD 8 0, (bs.drop 10).take c, (bs.drop (11 + c)).take (bs.getD (10 + c) 0).toNat⟩ := by
              unfold decW stV stT
              rw [if_pos (by omega), if_pos (by omega), if_pos (by omega)]
            rw [if_neg h3, if_neg h3, e]
namespace F43
variable {bs : List Int} {p P Z c : Nat}
/-- The end, without a packet. -/
theorem no {H : Heap} {z : List Value} (gz : H.get Z = .row z true) (hz : z.length = 6) : ∃ X, X = H.set Z (.row pk0.cells true) ∧ stc H Z 0 pk0.cells = some X ∧ ldAll X Z 0 pk0.cells :=
  ⟨_, rfl, rstAll gz (by rw [hz]; rfl), rldAll (vs := pk0.cells) (own := true) (by simp [pk0, pv0])⟩
/-- The reader goes on; what lies apart from it stays. -/
theorem tail {H : Heap} {a : Option Addr} {q : Pk} {base : Nat} (hb : IsB bs) (hc : c ≤ 16) (r : RB H p a bs (10 + c)) (gz : H.get Z = .row pk0.cells true) (gP : H.get P = .row q.cells true) (hZ : Z < H.next) (hP : P < H.next) (hZP : Z ≠ P) (hpZ : p ≠ Z) (hpP : p ≠ P) (hbZ : base ≤ Z) (hbP : base ≤ P) (hbp : base ≤ p) (hbn : base ≤ H.next) (aZ : ¬In1 a Z) (aP : ¬In1 a P)
    (hq : q.v = { decW bs c with data := [] }) (hqa : q.da = none) (hdk : q.dk = 0) (oq : Ints .i64 H q.pa q.v.path.length q.pk q.v.path) (qp : ∀ b, In1 q.pa b → b ≠ p ∧ b ≠ P ∧ b ≠ Z) {t30a : Option Addr} {t30n t30k : Nat} {t31 t32 : Int} (ht : ¬t32 < t31) :
    ∃ m H', L0 Z 0 (some ⟨p, 0, none⟩) P 0 t30a t30n t30k t31 t32 H (.tuple #[m.agg, .int .i64 (decT bs c).2], H') ∧ m.v = (decT bs c).1 ∧ PkOk H' m ∧ Keep base H H' := by
  obtain ⟨a1, H1, c1, r1, f1⟩ := F69.ok hb r
  have k1 : Keep base H H1 := f1.keep hbn hbp
  have gz1 : H1.get Z = .row pk0.cells true := by rw [f1.chg.get Z hZ fun h => hpZ (show Z = p from h).symm]; exact gz
  have gP1 : H1.get P = .row q.cells true := by rw [f1.chg.get P hP fun h => hpP (show P = p from h).symm]; exact gP
  have n1 := f1.chg.next
  have oq1 : Ints .i64 H1 q.pa q.v.path.length q.pk q.v.path := oq.chg f1.chg fun b hb h => (qp b hb).1 h
  have c2 := RB.end_ r1
  have hk0 := (stV_one hb (10 + c)).2
  rw [show 10 + c + 1 = 11 + c by omega] at r1 c2
  -- an answer without a packet
  have none_ : ∀ (X : Heap) (e : Int), X.get Z = .row pk0.cells true → Keep base H X → base ≤ X.next → ∃ Y, stc X Z 0 pk0.cells = some Y ∧ ldAll Y Z 0 pk0.cells ∧ PkOk Y pk0 ∧ Keep base H Y := fun X e g k hn =>
    ⟨X.set Z (.row pk0.cells true), rstAll g rfl, rldAll (vs := pk0.cells) (own := true) (by simp [pk0, pv0]), (pk0_own 0 _).ok, k.trans (Keep.set _ hbZ)⟩
  unfold decT
  simp only
  by_cases h1 : bs.length < 11 + c
  · rw [if_pos h1]
    rw [if_pos h1] at c2
    obtain ⟨Y, y1, y2, y3, y4⟩ := none_ H1 2 gz1 k1 (by omega)
    refine ⟨pk0, Y, L0_step ?_, rfl, y3, y4⟩
    rw [if_neg ht]
    refine ⟨_, _, c1, _, _, c2, ?_⟩
    rw [if_pos rfl]
    exact ⟨Y, y1, _, _, _, _, _, _, _, _, _, _, y2, rfl⟩
  · rw [if_neg h1]
    have c2' : ∃ t48, Cc 37 [.pointer (some ⟨p, 0, none⟩)] H1 = some (.int .i64 t48, H1) ∧ t48 ≠ 2 := ⟨_, c2, by rw [if_neg h1]; split <;> decide⟩
    obtain ⟨t48, c2, h48⟩ := c2'
    by_cases hk : ¬(1 ≤ bs.getD (10 + c) 0 ∧ bs.getD (10 + c) 0 ≤ 24)
    · rw [if_pos hk]
      obtain ⟨Y, y1, y2, y3, y4⟩ := none_ H1 3 gz1 k1 (by omega)
      refine ⟨pk0, Y, L0_step ?_, rfl, y3, y4⟩
      rw [if_neg ht]
      refine ⟨_, _, c1, _, _, c2, ?_⟩
      rw [if_neg h48]
      refine ⟨_, _, F62.ok _ _ _ _, ?_⟩
      rw [if_neg (by simpa using hk)]
      exact ⟨Y, y1, _, _, _, _, _, _, _, _, _, _, y2, rfl⟩
    · rw [if_neg hk]
      replace hk := Classical.not_not.1 hk
      generalize hkk : (bs.getD (10 + c) 0).toNat = k
      have hk' : bs.getD (10 + c) 0 = (k : Int) := by omega
      obtain ⟨a3, a5, k5, H3, c3, o3, r3, f3⟩ := RB.text hb r1 k
      have k3 : Keep base H H3 := k1.trans (f3.keep (by omega) hbp)
      have gz3 : H3.get Z = .row pk0.cells true := by rw [f3.chg.get Z (by omega) fun h => hpZ (show Z = p from h).symm]; exact gz1
      have gP3 : H3.get P = .row q.cells true := by rw [f3.chg.get P (by omega) fun h => hpP (show P = p from h).symm]; exact gP1
      have n3 := f3.chg.next
      have oq3 : Ints .i64 H3 q.pa q.v.path.length q.pk q.v.path := oq1.chg f3.chg fun b hb h => (qp b hb).1 h
      let m : Pk := ⟨{ q.v with data := stT bs (11 + c) k }, q.pa, q.pk, a5, k5⟩
      let X4 := H3.set P (.row m.cells true)
      have w4 : stc H3 P 5 [.slice a5 (stT bs (11 + c) k).length k5] = some X4 := rstc' gP3 (i := 5) (by simp) _
      have gP4 : X4.get P = .row m.cells true := by simp [X4]
      have gz4 : X4.get Z = .row pk0.cells true := by
        show (H3.set _ _).get _ = _
        rw [Heap.get_set_ne _ _ _ _ hZP]; exact gz3
      have k4 : Keep base H X4 := k3.trans (Keep.set _ hbP)
      have hkb : k ≤ 24 := by omega
      have hst : (stT bs (11 + c) k).length ≤ 24 := by unfold stT; split <;> simp; omega
      have mok : PkOk X4 m := by
        have hqv : q.v.path.length ≤ 16 := by rw [hq]; show (stT bs 10 c).length ≤ 16; unfold stT; split <;> simp; omega
        exact ⟨oq3.chg (chgSet' _) fun b hb h => (qp b hb).2.1 h, o3.sl.chg (chgSet' _) fun b hb h => by have := (o3.lt hb).1; have h : b = P := h; omega, by show q.v.path.length ≤ _; omega, by show (stT bs (11 + c) k).length ≤ _; omega⟩
      have r4 : RB X4 p a3 bs (11 + c + k) := r3.chg (chgSet' _) (fun h => hpP h) fun b hb h => aP (f1.arr _ (f3.arr _ ((show b = P from h) ▸ hb)))
      have c4 := RB.end_ r4
      have mv : m.v = decW bs c := by
        show ({ q.v with data := stT bs (11 + c) k } : PV) = _
        rw [hq]
        unfold decW
        rw [hkk]
      by_cases h5 : bs.length < 11 + c + k
      · rw [if_pos h5]
        rw [if_pos h5] at c4
        obtain ⟨Y, y1, y2, y3, y4⟩ := none_ X4 2 gz4 k4 (by show base ≤ H3.next; omega)
        refine ⟨pk0, Y, L0_step ?_, rfl, y3, y4⟩
        rw [if_neg ht]
        refine ⟨_, _, c1, _, _, c2, ?_⟩
        rw [if_neg h48]
        refine ⟨_, _, F62.ok _ _ _ _, ?_⟩
        rw [if_pos (by simpa using hk), hk']
        refine ⟨_, _, _, _, c3, X4, w4, _, _, c4, ?_⟩
        rw [if_neg (by decide)]
        exact ⟨Y, y1, _, _, _, _, _, _, _, _, _, _, y2, rfl⟩
      · rw [if_neg h5]
        rw [if_neg h5] at c4
        by_cases h6 : 11 + c + k < bs.length
        · rw [if_pos h6]
          rw [if_pos h6] at c4
          obtain ⟨Y, y1, y2, y3, y4⟩ := none_ X4 3 gz4 k4 (by show base ≤ H3.next; omega)
          refine ⟨pk0, Y, L0_step ?_, rfl, y3, y4⟩
          rw [if_neg ht]
          refine ⟨_, _, c1, _, _, c2, ?_⟩
          rw [if_neg h48]
          refine ⟨_, _, F62.ok _ _ _ _, ?_⟩
          rw [if_pos (by simpa using hk), hk']
          refine ⟨_, _, _, _, c3, X4, w4, _, _, c4, ?_⟩
          rw [if_neg (by decide)]
          exact ⟨Y, y1, _, _, _, _, _, _, _, _, _, _, y2, rfl⟩
        · rw [if_neg h6]
          rw [if_neg h6] at c4
          obtain ⟨H5, c5, g5⟩ := F28.ok mok
          rw [mv] at c5
          have n5 := g5.next
          have nX : X4.next = H3.next := rfl
          have k5' : Keep base H H5 := k4.trans (g5.weak (by omega))
          have gP5 : H5.get P = .row m.cells true := by rw [g5.get _ (by omega)]; exact gP4
          have gz5 : H5.get Z = .row pk0.cells true := by rw [g5.get _ (by omega)]; exact gz4
          by_cases hm : mayP (decW bs c)
          · rw [if_pos hm]
            let X6 := H5.set Z (.row m.cells true)
            have w6 : stc H5 Z 0 m.cells = some X6 := rstAll gz5 rfl
            have g6 : X6.get Z = .row m.cells true := by simp [X6]
            have m5 := mok.keep g5
            have m6 : PkOk X6 m := ⟨m5.path.chg (chgSet' _) fun b hb h => (qp b hb).2.2 h, m5.data.chg (chgSet' _) fun b hb h => by have := (o3.lt hb).1; have h : b = Z := h; omega, m5.ps, m5.ds⟩
            refine ⟨m, X6, L0_step ?_, mv, m6, k5'.trans (Keep.set _ hbZ)⟩
            rw [if_neg ht]
            refine ⟨_, _, c1, _, _, c2, ?_⟩
            rw [if_neg h48]
            refine ⟨_, _, F62.ok _ _ _ _, ?_⟩
            rw [if_pos (by simpa using hk), hk']
            refine ⟨_, _, _, _, c3, X4, w4, _, _, c4, ?_⟩
            rw [if_pos rfl]
            refine ⟨_, _, _, _, _, _, _, _, _, _, rldAll gP4, _, _, c5, ?_⟩
            rw [if_pos (by simpa using hm)]
            exact ⟨_, _, _, _, _, _, _, _, _, _, rldAll gP5, X6, w6, _, _, _, _, _, _, _, _, _, _, rldAll g6, rfl⟩
          · rw [if_neg hm]
            obtain ⟨Y, y1, y2, y3, y4⟩ := none_ H5 3 gz5 k5' (by omega)
            refine ⟨pk0, Y, L0_step ?_, rfl, y3, y4⟩
            rw [if_neg ht]
            refine ⟨_, _, c1, _, _, c2, ?_⟩
            rw [if_neg h48]
            refine ⟨_, _, F62.ok _ _ _ _, ?_⟩
            rw [if_pos (by simpa using hk), hk']
            refine ⟨_, _, _, _, c3, X4, w4, _, _, c4, ?_⟩
            rw [if_pos rfl]
            refine ⟨_, _, _, _, _, _, _, _, _, _, rldAll gP4, _, _, c5, ?_⟩
            rw [if_neg (by simpa using hm)]
            exact ⟨Y, y1, _, _, _, _, _, _, _, _, _, _, y2, rfl⟩
/-- The loop over the path's bytes, and the end. -/
theorem l0 {G : Heap} {a : Option Addr} {w : PV} {a3 : Option Addr} {k3 : Nat} {ys : List Int} (hb : IsB bs) (hc : c ≤ 16) (hs : Ints .u8 G a3 ys.length k3 ys) (hyl : ys.length ≤ 16) (hyb : IsB ys) (hZ : Z < G.next) (hP : P < G.next) (hZP : Z ≠ P) (hpZ : p ≠ Z) (hpP : p ≠ P) (hp : p < G.next) (hP3 : ¬In1 a3 P) {base : Nat} (hbZ : base ≤ Z) (hbP : base ≤ P) (hbp : base ≤ p) (aZ : ¬In1 a Z) (aP : ¬In1 a P) (hal : ∀ b, In1 a b → b < G.next) (hw : w.path = ys) (hwd : w = { decW bs c with data := [] }) :
    ∀ (rest : List Int) (j : Nat) (H : Heap) (pa : Option Addr) (pk : Nat), ys.drop j = rest → j + rest.length = ys.length → Chg (fun b => b = P) G H → H.get P = .row [.int .i64 w.f, .int .i64 w.t, .int .i64 w.n, .int .i64 w.l, .slice pa j pk, .slice none 0 0] true → OwnI .i64 G.next H pa j pk (ys.take j) → RB H p a bs (10 + c) → H.get Z = .row pk0.cells true →
    ∃ m H', L0 Z 0 (some ⟨p, 0, none⟩) P 0 a3 ys.length k3 (ys.length : Int) (j : Int) H (.tuple #[m.agg, .int .i64 (decT bs c).2], H') ∧ m.v = (decT bs c).1 ∧ PkOk H' m ∧ Keep base H H' := by
  intro rest
  induction rest with
  | nil =>
    intro j H pa pk hd hj g gP o r gz
    simp only [List.length_nil] at hj
    have e : j = ys.length := by omega
    subst e
    rw [List.take_length] at o
    have hn := g.next
    let q : Pk := ⟨w, pa, pk, none, 0⟩
    have hwdd : w.data = [] := by rw [hwd]
    have gq : H.get P = .row q.cells true := by
      show _ = AObj.row [.int .i64 w.f, .int .i64 w.t, .int .i64 w.n, .int .i64 w.l, .slice pa w.path.length pk, .slice none w.data.length 0] true
      rw [hw, hwdd]; exact gP
    exact tail (q := q) hb hc r gz gq (by omega) (by omega) hZP hpZ hpP hbZ hbP hbp (by omega) aZ aP hwd rfl rfl (by show Ints .i64 H pa w.path.length pk w.path; rw [hw]; exact o.sl) (fun b hb => by have := (o.lt hb).1; omega) (by omega)
  | cons x rest ih =>
    intro j H pa pk hd hj g gP o r gz
    simp only [List.length_cons] at hj
    have hx := drop_get hd
    have hn := g.next
    have s := hs.chg g fun b hb h => hP3 ((show b = P from h) ▸ hb)
    obtain ⟨b, o3, hb3⟩ := s.at (by omega)
    rw [hb3] at s
    have hxb := hyb.get hx
    have ew : IntKind.wrap .i64 x = x := i64 (by omega) (by omega)
    have on := OwnI.new (K := .i64) H [x]
    have k1 : Keep H.next H (H.push (.row (List.map (Value.int .i64) [x]) true)) := Keep.push _ (Nat.le_refl _)
    have hlt1 : ∀ b, b < G.next → b < (H.push (.row (List.map (Value.int .i64) [x]) true)).next := fun b hb => by simp; omega
    obtain ⟨a4, k4, H4, c4, o4, g4⟩ := OwnI.app 8 (o.keep k1) on.sl (by simp; omega) (by simp; omega) (by simp; omega)
    simp only [List.length_cons, List.length_nil, Nat.zero_add] at c4 o4
    have et : ys.take (j + 1) = ys.take j ++ [x] := by rw [List.take_add_one, hx]; rfl
    rw [← et] at o4
    have gP4 : H4.get P = .row [.int .i64 w.f, .int .i64 w.t, .int .i64 w.n, .int .i64 w.l, .slice pa j pk, .slice none 0 0] true := by rw [g4.get _ hP, k1.get _ (by omega)]; exact gP
    let X5 := H4.set P (.row [.int .i64 w.f, .int .i64 w.t, .int .i64 w.n, .int .i64 w.l, .slice a4 (j + 1) k4, .slice none 0 0] true)
    have w5 : stc H4 P 4 [.slice a4 (j + 1) k4] = some X5 := rstc' gP4 (i := 4) (by simp) _
    have k4' : Keep G.next H H4 := (k1.weak hn).trans g4
    have gX : Chg (fun b => G.next ≤ b ∨ b = P) H X5 := (k4'.chg.weak (T := fun b => G.next ≤ b ∨ b = P) fun b _ h => .inl h).trans (chgSet' _) fun _ _ h => .inr h
    obtain ⟨m, H', z, m1, m2, m3⟩ := ih (j + 1) X5 a4 k4 (drop_next hd) (by omega) (g.trans gX fun b hb h => by rcases h with h | h; omega; exact h) (by simp [X5]) (o4.chg (chgSet' _) fun b hb h => by have := (o4.lt hb).1; have h : b = P := h; omega)
      (r.chg gX (fun h => by rcases h with h | h; omega; exact hpP h) fun b hb h => by
        rcases h with h | h
        · have := hal b hb; omega
        · exact aP (h ▸ hb)) (by rw [gX.get Z (by omega) fun h => by rcases h with h | h; omega; exact hZP h]; exact gz)
    refine ⟨m, H', L0_step ?_, m1, m2, (gX.keep (by omega) fun b _ h => by rcases h with h | h <;> omega).trans m3⟩
    rw [if_pos (by omega)]
    refine ⟨b, o3, hb3, by omega, by omega, x, Ints.get s hx, _, _, _, rldc' gP 4, _, rfl, a4, j + 1, k4, H4, ?_, X5, w5, ?_⟩
    · rw [ew]; exact c4
    · rw [i64 (by omega) (by omega), ← hb3]; exact_mod_cast z
theorem ok {H : Heap} {a0 : Option Addr} {n0 k0 : Nat} (hs : By H a0 n0 k0 bs) (hb : IsB bs) (hn : n0 ≤ 1099511627776) :
    ∃ m H', Cr 43 [.slice a0 n0 k0] H = some (.tuple #[m.agg, .int .i64 (decV bs).2], H') ∧ m.v = (decV bs).1 ∧ PkOk H' m ∧ Keep H.next H H' := by
  obtain ⟨H1, e1, n1, g1, k1⟩ := one H pk0.cells
  obtain ⟨p, a2, H2, c2, r2, hp, ha2, g2⟩ := F17.ok (hs.keep k1) hb hn
  have r2 : RB H2 p a2 bs 0 := by
    have : stR bs 0 = unpack bs := by unfold stR; rw [if_pos (Nat.zero_le _), List.drop_zero, unpack_tbits hb]
    have e : stE bs 0 = 0 := by unfold stE; rw [if_pos (Nat.zero_le _)]
    show RM H2 p a2 (stR bs 0) (stE bs 0)
    rw [this, e]; exact r2
  have hpl := r2.lt
  have hal2 := RM.alt r2
  obtain ⟨a3, H3, c3, r3, f3⟩ := F69.ok hb r2
  obtain ⟨a4, H4, c4, r4, f4⟩ := F69.ok hb r3
  obtain ⟨a5, H5, c5, r5, f5⟩ := RB.take r4 (w := 6) (by omega) (by omega)
  obtain ⟨a6, H6, c6, r6, f6⟩ := F69.ok hb r5
  have t6 := f3.trans (f4.trans (f5.trans f6))
  have n26 := t6.chg.next
  obtain ⟨H7, e7, n7, g7, k7⟩ := one H6 pk0.cells
  have hV : 0 ≤ stV bs 2 6 ∧ stV bs 2 6 < 2 ^ 48 := by
    unfold stV
    split
    · rename_i h
      exact beV_range (k := 6) (by simp; omega) (by omega)
    · decide
  have ew : IntKind.wrap .i64 (stV bs (0 + 1 + 1) 6) = stV bs 2 6 := i64 (by have := hV.1; show _ ≤ stV bs 2 6; omega) (by have := hV.2; show stV bs 2 6 ≤ _; omega)
  obtain ⟨c, hc⟩ : ∃ c, (bs.getD 9 0).toNat = c := ⟨_, rfl⟩
  let w : PV := ⟨bs.getD 0 0, bs.getD 1 0, stV bs 2 6, bs.getD 8 0, stT bs 10 c, []⟩
  let row0 : List Value := [.int .i64 w.f, .int .i64 w.t, .int .i64 w.n, .int .i64 w.l, .slice none 0 0, .slice none 0 0]
  let X8 := H7.set H6.next (.row row0 true)
  have w8 : stc H7 H6.next 0 row0 = some X8 := rstAll g7 rfl
  have g8 : X8.get H6.next = .row row0 true := by simp [X8]
  have k68 : Keep H6.next H6 X8 := k7.trans (Keep.set _ (Nat.le_refl _))
  have r8 : RB X8 p a6 bs (0 + 1 + 1 + 6 + 1) := r6.new k68
  obtain ⟨a9, H9, c9, r9, f9⟩ := F69.ok hb r8
  have r9 : RB H9 p a9 bs 10 := r9
  have n8 : X8.next = H6.next + 1 := n7
  have n89 := f9.chg.next
  have hp1 : H.next < p := by omega
  have hp6 : p < H6.next := by omega
  have arr9 : ∀ b, In1 a9 b → In1 a2 b := fun b hb => t6.arr b (f9.arr b hb)
  have gP9 : H9.get H6.next = .row row0 true := by rw [f9.chg.get _ (by omega) fun h => by have h : H6.next = p := h; omega]; exact g8
  have gz2 : H2.get H.next = .row pk0.cells true := by rw [g2.get _ (by omega)]; exact g1
  have n2 := g2.next
  have gz6 : H6.get H.next = .row pk0.cells true := by rw [t6.chg.get _ (by omega) fun h => by have h : H.next = p := h; omega]; exact gz2
  have gz9 : H9.get H.next = .row pk0.cells true := by
    rw [f9.chg.get _ (by omega) fun h => by have h : H.next = p := h; omega, k68.get _ (by omega)]; exact gz6
  have kH2 : Keep H.next H H2 := k1.trans (g2.weak (by omega))
  have kH6 : Keep H.next H H6 := kH2.trans (t6.keep (by omega) (by omega))
  have kH9 : Keep H.next H H9 := (kH6.trans (k68.weak (by omega))).trans (f9.keep (by omega) (by omega))
  have h9 := (stV_one hb 9).2
  rw [decV_eq, hc]
  have go : ∀ r, (if bs.getD 9 0 > 16 then ∃ (H_10 : Heap), stc H9 H.next 0 pk0.cells = some H_10 ∧ ldAll H_10 H.next 0 pk0.cells ∧ r = (.tuple #[pk0.agg, .int .i64 3], H_10)
      else ∃ (t30a : Option Addr) (t30n : Nat) (t30k : Nat) (H_11 : Heap), Cr 31 [.pointer (some ⟨p, 0, none⟩), .int .i64 (bs.getD 9 0)] H9 = some (.slice t30a t30n t30k, H_11) ∧ L0 H.next 0 (some ⟨p, 0, none⟩) H6.next 0 t30a t30n t30k (((t30n : Nat) : Int)) 0 H_11 r) → Cr 43 [.slice a0 n0 k0] H = some r := by
    intro r hr
    refine call ⟨_, e1, _, _, c2, _, _, c3, _, _, c4, _, _, c5, _, _, c6, _, e7, X8, ?_, _, _, c9, ?_⟩
    · rw [ew]; exact w8
    · by_cases h16 : bs.getD 9 0 > 16
      · rw [if_pos h16] at hr
        obtain ⟨Y, y1, y2, y3⟩ := hr
        rw [if_pos h16]
        exact ⟨Y, y1, _, _, _, _, _, _, _, _, _, _, y2, y3⟩
      · rw [if_neg h16] at hr
        rw [if_neg h16]
        exact hr
  by_cases h16 : bs.getD 9 0 > 16
  · rw [if_pos h16]
    refine ⟨pk0, H9.set H.next (.row pk0.cells true), go _ ?_, rfl, (pk0_own 0 _).ok, kH9.trans (Keep.set _ (Nat.le_refl _))⟩
    rw [if_pos h16]
    exact ⟨_, rstAll gz9 rfl, rldAll (vs := pk0.cells) (own := true) (by simp [pk0, pv0]), rfl⟩
  · rw [if_neg h16]
    have hcc : bs.getD 9 0 = (c : Int) := by omega
    obtain ⟨a10, a11, k11, H11, c11, o11, r11, f11⟩ := RB.text hb r9 c
    have n911 := f11.chg.next
    have arr11 : ∀ b, In1 a10 b → In1 a2 b := fun b hb => arr9 b (f11.arr b hb)
    have hyl : (stT bs 10 c).length ≤ 16 := by unfold stT; split <;> simp; omega
    have hyb : IsB (stT bs 10 c) := by
      unfold stT; split
      · exact fun x hx => hb x (List.mem_of_mem_drop (List.mem_of_mem_take hx))
      · exact fun x hx => by cases hx
    have gP11 : H11.get H6.next = .row row0 true := by rw [f11.chg.get _ (by omega) fun h => by have h : H6.next = p := h; omega]; exact gP9
    have gz11 : H11.get H.next = .row pk0.cells true := by rw [f11.chg.get _ (by omega) fun h => by have h : H.next = p := h; omega]; exact gz9
    have k11 : Keep H.next H H11 := kH9.trans (f11.keep (by omega) (by omega))
    have ha2' : ∀ b, In1 a10 b → H.next < b ∧ b < H6.next := fun b hb => by have := ha2 b (arr11 b hb); have := hal2 b (arr11 b hb); omega
    obtain ⟨m, H', z, m1, m2, m3⟩ := l0 (G := H11) (w := w) (Z := H.next) (P := H6.next) (p := p) (c := c) (base := H.next) hb (by omega) o11.sl hyl hyb (by omega) (by omega) (by omega) (by omega) (by omega) (by omega) (fun h => by have := (o11.lt h).1; omega) (Nat.le_refl _) (by omega) (by omega) (fun h => by have := ha2' _ h; omega) (fun h => by have := ha2' _ h; omega) (fun b hb => by have := ha2' b hb; omega)
      rfl rfl (stT bs 10 c) 0 H11 none 0 rfl (by omega) (Chg.refl _) gP11 OwnI.nil r11 gz11
    refine ⟨m, H', go _ ?_, m1, m2, k11.trans m3⟩
    rw [if_neg h16, hcc]
    exact ⟨_, _, _, _, c11, z⟩
end F43
namespace F67
theorem l0 {H : Heap} {a0 a1 : Option Addr} {n k0 k1 : Nat} {xs ys : List Int} (h0 : Ints .i64 H a0 n k0 xs) (h1 : Ints .i64 H a1 n k1 ys) (hn : n ≤ 140737488355328) : ∀ (d j : Nat), j + d = n → L0 a0 n k0 a1 n k1 (n : Int) (j : Int) H (.bool (decide (xs.drop j = ys.drop j)), H) := by
  have hl := h0.ln
  have hl1 := h1.ln
  intro d
  induction d with
  | zero =>
    intro j hj
    refine L0_step ?_
    rw [if_neg (by omega), List.drop_eq_nil_of_le (by omega), List.drop_eq_nil_of_le (by omega)]
    rfl
  | succ d ih =>
    intro j hj
    obtain ⟨b0, o0, rfl⟩ := h0.at (by omega)
    obtain ⟨b1, o1, rfl⟩ := h1.at (by omega)
    have hx := getD_some (xs := xs) (j := j) (by omega)
    have hy := getD_some (xs := ys) (j := j) (by omega)
    refine L0_step ?_
    rw [if_pos (by omega)]
    refine ⟨b0, o0, rfl, by omega, by omega, _, Ints.get h0 hx, b1, o1, rfl, by omega, by omega, _, Ints.get h1 hy, ?_⟩
    have ed : ∀ zs : List Int, j < zs.length → zs.drop j = zs.getD j 0 :: zs.drop (j + 1) := fun zs hz => by rw [List.drop_eq_getElem_cons hz]; simp [List.getD, hz]
    rw [ed xs (by omega), ed ys (by omega)]
    by_cases e : xs.getD j 0 = ys.getD j 0
    · rw [if_pos e, i64 (by omega) (by omega), e]
      simp only [List.cons.injEq, true_and]
      exact_mod_cast ih (j + 1) (by omega)
    · rw [if_neg e]
      simp only [List.cons.injEq, e, false_and, decide_false]
theorem ok {H : Heap} {a0 a1 : Option Addr} {n m k0 k1 : Nat} {xs ys : List Int} (h0 : Ints .i64 H a0 n k0 xs) (h1 : Ints .i64 H a1 m k1 ys) (hn : n ≤ 140737488355328) : Cr 67 [.slice a0 n k0, .slice a1 m k1] H = some (.bool (decide (xs = ys)), H) := by
  have hl := h0.ln
  have hl1 := h1.ln
  refine call ?_
  by_cases e : n = m
  · subst e
    rw [if_pos rfl]
    simpa using l0 h0 h1 hn n 0 (by omega)
  · rw [if_neg (by omega), decide_eq_false fun h => e (by rw [← hl, ← hl1, h])]
end F67
namespace F68
theorem l0 {H : Heap} {a0 a1 : Option Addr} {n k0 k1 : Nat} {xs ys : List Int} (h0 : Ints .u8 H a0 n k0 xs) (h1 : Ints .u8 H a1 n k1 ys) (hn : n ≤ 140737488355328) : ∀ (d j : Nat), j + d = n → L0 a0 n k0 a1 n k1 (n : Int) (j : Int) H (.bool (decide (xs.drop j = ys.drop j)), H) := by
  have hl := h0.ln
  have hl1 := h1.ln
  intro d
  induction d with
  | zero =>
    intro j hj
    refine L0_step ?_
    rw [if_neg (by omega), List.drop_eq_nil_of_le (by omega), List.drop_eq_nil_of_le (by omega)]
    rfl
  | succ d ih =>
    intro j hj
    obtain ⟨b0, o0, rfl⟩ := h0.at (by omega)
    obtain ⟨b1, o1, rfl⟩ := h1.at (by omega)
    have hx := getD_some (xs := xs) (j := j) (by omega)
    have hy := getD_some (xs := ys) (j := j) (by omega)
    refine L0_step ?_
    rw [if_pos (by omega)]
    refine ⟨b0, o0, rfl, by omega, by omega, _, Ints.get h0 hx, b1, o1, rfl, by omega, by omega, _, Ints.get h1 hy, ?_⟩
    have ed : ∀ zs : List Int, j < zs.length → zs.drop j = zs.getD j 0 :: zs.drop (j + 1) := fun zs hz => by rw [List.drop_eq_getElem_cons hz]; simp [List.getD, hz]
    rw [ed xs (by omega), ed ys (by omega)]
    by_cases e : xs.getD j 0 = ys.getD j 0
    · rw [if_pos e, i64 (by omega) (by omega), e]
      simp only [List.cons.injEq, true_and]
      exact_mod_cast ih (j + 1) (by omega)
    · rw [if_neg e]
      simp only [List.cons.injEq, e, false_and, decide_false]
theorem ok {H : Heap} {a0 a1 : Option Addr} {n m k0 k1 : Nat} {xs ys : List Int} (h0 : Ints .u8 H a0 n k0 xs) (h1 : Ints .u8 H a1 m k1 ys) (hn : n ≤ 140737488355328) : Cr 68 [.slice a0 n k0, .slice a1 m k1] H = some (.bool (decide (xs = ys)), H) := by
  have hl := h0.ln
  have hl1 := h1.ln
  refine call ?_
  by_cases e : n = m
  · subst e
    rw [if_pos rfl]
    simpa using l0 h0 h1 hn n 0 (by omega)
  · rw [if_neg (by omega), decide_eq_false fun h => e (by rw [← hl, ← hl1, h])]
end F68
theorem pv_eq {a b : PV} : a = b ↔ a.f = b.f ∧ a.t = b.t ∧ a.n = b.n ∧ a.l = b.l ∧ a.path = b.path ∧ a.data = b.data := by
  cases a; cases b; simp
theorem enc_inj {v w : PV} (hv : mayP v) (hw : mayP w) (h : encV v = encV w) : v = w := by
  have := dec_enc hv
  rw [h, dec_enc hw] at this
  exact (Prod.mk.inj this).1.symm
namespace F42
theorem ok {H : Heap} {p q : Pk} (hp : PkOk H p) (hq : PkOk H q) : ∃ H', Cr 42 [p.agg, q.agg] H = some (.bool (decide (p.v = q.v)), H') ∧ Keep H.next H H' := by
  obtain ⟨H1, H2, e1, e2, n1, n2, g1, g2, g3, k1, k2⟩ := two H p.cells q.cells
  have hp2 := hp.keep k2
  have hq2 := hq.keep k2
  refine ⟨H2, call ⟨_, e1, _, e2, _, rldc' g2 0, _, rldc' g3 0, ?_⟩, k2⟩
  by_cases c1 : p.v.f = q.v.f
  · rw [if_pos c1]
    refine ⟨_, rldc' g2 1, _, rldc' g3 1, ?_⟩
    by_cases c2 : p.v.t = q.v.t
    · rw [if_pos c2]
      refine ⟨_, rldc' g2 2, _, rldc' g3 2, ?_⟩
      by_cases c3 : p.v.n = q.v.n
      · rw [if_pos c3]
        refine ⟨_, rldc' g2 3, _, rldc' g3 3, ?_⟩
        by_cases c4 : p.v.l = q.v.l
        · rw [if_pos c4]
          refine ⟨_, _, _, rldc' g2 4, _, _, _, rldc' g3 4, _, _, F67.ok hp2.path hq2.path (by have := hp.ps; omega), ?_⟩
          by_cases c5 : p.v.path = q.v.path
          · rw [if_pos (by simpa using c5)]
            refine ⟨_, _, _, rldc' g2 5, _, _, _, rldc' g3 5, _, _, F68.ok hp2.data hq2.data hp.ds, ?_⟩
            rw [show decide (p.v = q.v) = decide (p.v.data = q.v.data) from decide_eq_decide.2 ⟨fun h => by rw [h], fun h => pv_eq.2 ⟨c1, c2, c3, c4, c5, h⟩⟩]
          · rw [if_neg (by simpa using c5), decide_eq_false fun h => c5 (by rw [h])]
        · rw [if_neg c4, decide_eq_false fun h => c4 (by rw [h])]
      · rw [if_neg c3, decide_eq_false fun h => c3 (by rw [h])]
    · rw [if_neg c2, decide_eq_false fun h => c2 (by rw [h])]
  · rw [if_neg c1, decide_eq_false fun h => c1 (by rw [h])]
end F42
namespace F44
theorem ok {H : Heap} {p q : Pk} (hp : PkOk H p) (hq : PkOk H q) (bp : IsB p.v.data) (bq : IsB q.v.data) : ∃ H', Cr 44 [p.agg, q.agg] H = some (.bool (decide (p.v = q.v)), H') ∧ Keep H.next H H' := by
  obtain ⟨H1, H2, e1, e2, n1, n2, g1, g2, g3, k1, k2⟩ := two H p.cells q.cells
  have hp2 := hp.keep k2
  have hq2 := hq.keep k2
  refine ⟨H2, call ⟨_, e1, _, e2, _, rldc' g2 0, _, rldc' g3 0, ?_⟩, k2⟩
  by_cases c1 : p.v.f = q.v.f
  · rw [if_pos c1]
    refine ⟨_, rldc' g2 1, _, rldc' g3 1, ?_⟩
    by_cases c2 : p.v.t = q.v.t
    · rw [if_pos c2]
      refine ⟨_, rldc' g2 2, _, rldc' g3 2, ?_⟩
      by_cases c3 : p.v.n = q.v.n
      · rw [if_pos c3]
        refine ⟨_, rldc' g2 3, _, rldc' g3 3, ?_⟩
        by_cases c4 : p.v.l = q.v.l
        · rw [if_pos c4]
          refine ⟨_, _, _, rldc' g2 4, _, _, _, rldc' g3 4, _, _, F25.ok hp2.path hq2.path (by have := hp.ps; omega), ?_⟩
          by_cases c5 : p.v.path = q.v.path
          · rw [if_pos (by simpa using c5)]
            refine ⟨_, _, _, rldc' g2 5, _, hp2.data.str, _, _, _, rldc' g3 5, _, hq2.data.str, ?_⟩
            rw [str_eq bp bq, show decide (p.v = q.v) = decide (p.v.data = q.v.data) from decide_eq_decide.2 ⟨fun h => by rw [h], fun h => pv_eq.2 ⟨c1, c2, c3, c4, c5, h⟩⟩]
          · rw [if_neg (by simpa using c5), decide_eq_false fun h => c5 (by rw [h])]
        · rw [if_neg c4, decide_eq_false fun h => c4 (by rw [h])]
      · rw [if_neg c3, decide_eq_false fun h => c3 (by rw [h])]
    · rw [if_neg c2, decide_eq_false fun h => c2 (by rw [h])]
  · rw [if_neg c1, decide_eq_false fun h => c1 (by rw [h])]
end F44
theorem decV_data {bs : List Int} (hb : IsB bs) : IsB (decV bs).1.data := by
  have h0 : IsB pv0.data := fun x hx => by cases hx
  unfold decV
  simp only
  repeat' split
  all_goals first | exact h0 | exact fun x hx => hb x (List.mem_of_mem_drop (List.mem_of_mem_take hx))
theorem decV_err {bs : List Int} (h : (decV bs).2 ≠ 0) : (decV bs).1 = pv0 := by
  revert h
  unfold decV
  simp only
  repeat' split
  all_goals first | exact fun _ => rfl | exact fun h => absurd rfl h
theorem back_back {xs : List Int} (h : pathP xs) : backL (backL xs) = xs := by
  have e : backL xs = xs.reverse := if_pos h
  have hr : pathP xs.reverse := ⟨fun x hx => h.1 x (List.mem_reverse.1 hx), (List.reverse_perm xs).nodup_iff.2 h.2.1, by rw [List.length_reverse]; exact h.2.2⟩
  rw [e, backL, if_pos hr, List.reverse_reverse]
end Go.X
