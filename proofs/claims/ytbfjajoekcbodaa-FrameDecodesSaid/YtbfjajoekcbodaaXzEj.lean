/- Elements as bytes: what is read. -/
import Derived.Test.YtbfjajoekcbodaaXzEi
import Derived.Test.YtbfjajoekcbodaaXzTeJ
import Derived.Test.YtbfjajoekcbodaaXzRf
set_option linter.unusedVariables false
set_option linter.unusedSimpArgs false
set_option maxRecDepth 20000
namespace Go.X
open Go Go.RowKit Go.Proofs
theorem textBits_eq : textBits = tbits := rfl
theorem list_split {bs : List Int} {i : Nat} (h : i < bs.length) : bs.drop i = bs.getD i 0 :: bs.drop (i + 1) := by rw [List.drop_eq_getElem_cons h]; simp [List.getD, h]
/-- The reader's state behind so many bytes. -/
def stR (bs : List Int) (j : Nat) : List Bool := if j ≤ bs.length then tbits (bs.drop j) else []
def stE (bs : List Int) (j : Nat) : Int := if j ≤ bs.length then 0 else 2
def stV (bs : List Int) (j w : Nat) : Int := if j + w ≤ bs.length then beV ((bs.drop j).take w) else 0
def stT (bs : List Int) (j m : Nat) : List Int := if j + m ≤ bs.length then (bs.drop j).take m else []
theorem tbits_take (bs : List Int) (w : Nat) : (tbits bs).take (8 * w) = tbits (bs.take w) := by
  by_cases h : w ≤ bs.length
  · have e : bs = bs.take w ++ bs.drop w := (List.take_append_drop w bs).symm
    conv => lhs; rw [e, tbits_append]
    rw [List.take_left' (by rw [tbits_len, List.length_take, Nat.min_eq_left h])]
  · rw [List.take_of_length_le (by rw [tbits_len]; omega), List.take_of_length_le (by omega)]
theorem tbits_drop (bs : List Int) (w : Nat) : (tbits bs).drop (8 * w) = tbits (bs.drop w) := by
  by_cases h : w ≤ bs.length
  · have e : bs = bs.take w ++ bs.drop w := (List.take_append_drop w bs).symm
    conv => lhs; rw [e, tbits_append]
    rw [List.drop_left' (by rw [tbits_len, List.length_take, Nat.min_eq_left h])]
  · rw [List.drop_eq_nil_of_le (by rw [tbits_len]; omega), List.drop_eq_nil_of_le (by omega)]; rfl
theorem takeS_st (bs : List Int) (j : Nat) {w : Nat} (h1 : 1 ≤ w) (h8 : w ≤ 8) : takeS (stR bs j) (stE bs j) ((8 * w : Nat) : Int) = (stV bs j w, stR bs (j + w), stE bs (j + w)) := by
  unfold stR stE stV takeS
  by_cases hj : j ≤ bs.length
  · rw [if_pos hj, if_pos hj, if_neg (by omega), tbits_len, List.length_drop]
    by_cases hw : j + w ≤ bs.length
    · rw [if_neg (by omega), if_pos hw, if_pos hw, if_pos hw, Int.toNat_natCast, tbits_take, tbits_drop, List.drop_drop]
      rfl
    · rw [if_pos (by omega), if_neg hw, if_neg hw, if_neg hw]
  · rw [if_neg hj, if_neg hj, if_pos (by omega), if_neg (by omega), if_neg (by omega), if_neg (by omega)]
theorem bytesOf_tbits {ys : List Int} (hb : IsB ys) {m : Nat} (h : m ≤ ys.length) : bytesOf (tbits ys) m = ys.take m := by
  apply List.ext_getElem?
  intro i
  by_cases hi : i < m
  · have hx : ys[i]? = some (ys.getD i 0) := by simp [List.getD, List.getElem?_eq_getElem (show i < ys.length by omega)]
    have hc := hb.get hx
    rw [List.getElem?_take, if_pos hi, hx]
    unfold bytesOf
    rw [List.getElem?_map, List.getElem?_range hi, Option.map_some, tbits_drop]
    have e : (tbits (ys.drop i)).take 8 = tbits [ys.getD i 0] := by
      rw [show 8 = 8 * 1 from rfl, tbits_take, list_split (show i < ys.length by omega)]; rfl
    have := beV_one hc
    unfold beV at this
    rw [e, this, wrap_nb (k := .u8) rfl, nb_ofInt hc.1 (by have := hc.2; show _ < (2 : Int) ^ 8; omega)]
  · rw [List.getElem?_eq_none (by rw [bytesOf_len]; omega), List.getElem?_eq_none (by simp; omega)]
theorem textS_st {bs : List Int} (hb : IsB bs) (j m : Nat) : textS (stR bs j) (stE bs j) (m : Int) = (stT bs j m, stR bs (j + m), stE bs (j + m)) := by
  unfold stR stE stT textS
  by_cases hj : j ≤ bs.length
  · rw [if_pos hj, if_pos hj, tbits_len, List.length_drop]
    by_cases hm : m = 0
    · subst hm
      rw [if_pos (by omega), if_pos (by omega), if_pos (by omega), if_pos (by omega)]; simp
    · rw [if_neg (by omega)]
      by_cases hw : j + m ≤ bs.length
      · rw [if_neg (by omega), if_pos hw, if_pos hw, if_pos hw, Int.toNat_natCast, tbits_drop, List.drop_drop, bytesOf_tbits (fun x hx => hb x (List.mem_of_mem_drop hx)) (by simp; omega)]
      · rw [if_pos (by omega), if_neg hw, if_neg hw, if_neg hw]
  · rw [if_neg hj, if_neg hj, if_pos (by omega), if_neg (by omega), if_neg (by omega), if_neg (by omega)]
theorem stV_one {bs : List Int} (hb : IsB bs) (j : Nat) : stV bs j 1 = bs.getD j 0 ∧ 0 ≤ bs.getD j 0 ∧ bs.getD j 0 < 256 := by
  unfold stV
  by_cases h : j + 1 ≤ bs.length
  · have hx : bs[j]? = some (bs.getD j 0) := by simp [List.getD, List.getElem?_eq_getElem (show j < bs.length by omega)]
    have hc := hb.get hx
    rw [if_pos h, list_split (show j < bs.length by omega)]
    exact ⟨beV_one hc, hc⟩
  · have : bs.getD j 0 = 0 := by rw [List.getD, List.getElem?_eq_none (by omega)]; rfl
    rw [if_neg h, this]; omega
section
variable {H : Heap} {p : Nat} {a : Option Addr} {bs : List Int} {j : Nat}
/-- A reader behind so many bytes. -/
abbrev RB (H : Heap) (p : Nat) (a : Option Addr) (bs : List Int) (j : Nat) : Prop := RM H p a (stR bs j) (stE bs j)
theorem RB.take (h : RB H p a bs j) {w : Nat} (h1 : 1 ≤ w) (h8 : w ≤ 8) : ∃ a2 H', Cc 49 [.pointer (some ⟨p, 0, none⟩), .int .i64 ((8 * w : Nat) : Int)] H = some (.int .u64 (stV bs j w), H') ∧ RB H' p a2 bs (j + w) ∧ Fd p a a2 H H' := by
  have := F49.all h ((8 * w : Nat) : Int)
  rw [takeS_st bs j h1 h8] at this
  exact this
theorem RB.text (hb : IsB bs) (h : RB H p a bs j) (m : Nat) : ∃ a2 a' k' H', Cc 60 [.pointer (some ⟨p, 0, none⟩), .int .i64 (m : Int)] H = some (.slice a' (stT bs j m).length k', H') ∧ OwnI .u8 H.next H' a' (stT bs j m).length k' (stT bs j m) ∧ RB H' p a2 bs (j + m) ∧ Fd p a a2 H H' := by
  have := F60.all h (m : Int)
  rw [textS_st hb] at this
  exact this
theorem RB.end_ (h : RB H p a bs j) : Cc 52 [.pointer (some ⟨p, 0, none⟩)] H = some (.int .i64 (if bs.length < j then 2 else if j < bs.length then 3 else 0), H) := by
  have := F52.ok h
  rw [this]
  congr 3
  unfold stE stR
  by_cases hj : j ≤ bs.length
  · rw [if_pos hj, if_pos hj, if_neg (show ¬bs.length < j by omega)]
    by_cases hj2 : j < bs.length
    · have : tbits (bs.drop j) ≠ [] := by intro e; have := congrArg List.length e; rw [tbits_len] at this; simp at this; omega
      rw [if_pos ⟨rfl, this⟩, if_pos hj2]
    · rw [List.drop_eq_nil_of_le (by omega), if_neg (by simp [tbits]), if_neg hj2]
  · rw [if_neg hj, if_neg hj, if_pos (show bs.length < j by omega), if_neg (by simp)]
end
theorem RM.alt {H : Heap} {p : Nat} {a : Option Addr} {R : List Bool} {e : Int} (h : RM H p a R e) : ∀ b, In1 a b → b < H.next := by obtain ⟨n, k, B, at_, h⟩ := h; exact fun b hb => h.s.lt hb

/-- An element's value, by its kind, of the bytes from a place on. -/
def mkV (bs : List Int) (kd : Int) (n j : Nat) : VE :=
  if kd = 1 then ⟨kd, IntKind.wrap .i64 (stV bs j 5), bs.getD (j + 5) 0, 0, []⟩ else if kd = 2 then ⟨kd, 0, 0, IntKind.wrap .i64 (IntKind.wrap .i16 (stV bs j 2)), []⟩ else ⟨kd, 0, 0, 0, stT bs j n⟩
def rightP (kd n : Int) : Prop := if kd = 1 then n = 6 else if kd = 2 then n = 2 else n ≤ 16
instance (kd n : Int) : Decidable (rightP kd n) := by unfold rightP; infer_instance
/-- What an element comes to, from a place on. -/
def decI (bs : List Int) (j : Nat) : Except Int (VE × Nat) :=
  if bs.length < j + 1 then .error 2 else if ¬(1 ≤ bs.getD j 0 ∧ bs.getD j 0 ≤ 4) then .error 3 else if bs.length < j + 2 then .error 2
  else if ¬rightP (bs.getD j 0) (bs.getD (j + 1) 0) then .error 3 else if bs.length < j + 2 + (bs.getD (j + 1) 0).toNat then .error 2
  else .ok (mkV bs (bs.getD j 0) (bs.getD (j + 1) 0).toNat (j + 2), j + 2 + (bs.getD (j + 1) 0).toNat)
def decGo (bs : List Int) : Nat → Nat → List VE → List VE × Int
  | 0, j, acc => if bs.length < j then ([], 2) else if j < bs.length then ([], 3) else (acc, 0)
  | m + 1, j, acc => match decI bs j with
    | .error e => ([], e)
    | .ok (v, j') => decGo bs m j' (acc ++ [v])
def decL (bs : List Int) : List VE × Int := if bs.length < 1 then ([], 2) else if bs.getD 0 0 > 4 then ([], 3) else decGo bs (bs.getD 0 0).toNat 1 []
theorem decGo_len (bs : List Int) : ∀ (d j : Nat) (acc : List VE), (decGo bs d j acc).1.length ≤ acc.length + d
  | 0, j, acc => by
    unfold decGo
    split
    · simp
    · split <;> simp
  | d + 1, j, acc => by
    unfold decGo
    cases decI bs j with
    | error e => simp
    | ok r =>
      obtain ⟨v, j'⟩ := r
      have := decGo_len bs d j' (acc ++ [v])
      simp only [List.length_append, List.length_singleton] at this
      simp only
      omega
theorem decL_len (bs : List Int) : (decL bs).1.length ≤ 4 := by
  unfold decL
  split
  · simp
  · split
    · simp
    · have := decGo_len bs (bs.getD 0 0).toNat 1 []
      simp only [List.length_nil] at this
      omega
namespace F50
theorem ok {H : Heap} {p : Nat} {a : Option Addr} {bs : List Int} {j : Nat} (h : RB H p a bs j) : Ce 50 [.pointer (some ⟨p, 0, none⟩)] H = some (.bool (decide (bs.length < j)), H) := by
  refine call ⟨_, _, h.end_, ?_⟩
  by_cases h1 : bs.length < j
  · rw [if_pos h1, decide_eq_true h1]; rfl
  · rw [if_neg h1, decide_eq_false h1]
    split <;> rfl
end F50
abbrev kdIe (kd : Int) : Ie := ⟨⟨kd, 0, 0, 0, []⟩, none, 0, 0⟩
namespace F74
theorem ok (kd n : Int) (H : Heap) : ∃ H', Ce 74 [.int .i64 kd, .int .i64 n] H = some (.bool (decide (rightP kd n)), H') ∧ Keep H.next H H' := by
  obtain ⟨H1, c1, k1⟩ := F37.ok (kdIe kd) H
  refine ⟨H1, call ⟨_, _, c1, ?_⟩, k1⟩
  unfold ofV rightP
  by_cases h1 : kd = 1
  · rw [if_pos h1]
    refine .inr ⟨94, _, rfl, ?_⟩
    rw [if_pos rfl]
    refine ⟨_, _, rfl, ?_⟩
    simp only [h1, if_true]
    rfl
  rw [if_neg h1]
  by_cases h2 : kd = 2
  · rw [if_pos h2]
    refine .inr ⟨96, _, rfl, ?_⟩
    rw [if_neg (by decide), if_pos rfl]
    refine ⟨_, rfl, ?_⟩
    simp only [h1, h2, if_true, if_false]
    rfl
  rw [if_neg h2]
  have e : decide (if kd = 1 then n = 6 else if kd = 2 then n = 2 else n ≤ 16) = decide (n ≤ 16) := by simp only [h1, h2, if_false]
  by_cases h3 : kd = 3 ∨ kd = 4
  · rw [if_pos h3]
    refine .inr ⟨98, _, rfl, ?_⟩
    rw [if_neg (by decide), if_neg (by decide), ← e]
  · rw [if_neg h3]
    exact .inl ⟨rfl, by rw [← e]⟩
end F74
section
variable {H H' H2 : Heap} {p q : Nat} {a a2 : Option Addr} {bs : List Int} {j : Nat}
/-- A row that is not the reader's is left. -/
theorem Fd.at (f : Fd p a a2 H H2) (hq : q < H.next) (hne : q ≠ p) : H2.get q = H.get q := f.chg.get q hq hne
theorem RB.new (h : RB H p a bs j) (k : Keep H.next H H2) : RB H2 p a bs j := RM.new h k
theorem RB.row (h : RB H p a bs j) (c : Chg (fun b => b = q) H H2) (hq : p ≠ q) (ha : ∀ b, In1 a b → b ≠ q) : RB H2 p a bs j := RM.chg h c (fun e => hq e) fun b hb e => ha b hb e
end
namespace F75
theorem l0 {G : Heap} {s : Option Addr} {sn sk q : Nat} {kd : Int} {xs : List Int} (hs : Ints .u8 G s sn sk xs) (hb : IsB xs) (hsn : sn ≤ 1000000) (hq : q < G.next) (gq : ∃ us, us.length = 5 ∧ G.get q = .row us true) : ∀ (rest : List Int) (j : Nat) (a : Option Addr) (k : Nat) (H : Heap), xs.drop j = rest → j + rest.length = sn → OwnI .i64 G.next H a j k (xs.take j) → Keep G.next G H →
    ∃ (e : Ie) (H' : Heap), L0 kd q 0 a j k s sn sk (sn : Int) (j : Int) H (e.agg, H') ∧ e.v = ⟨kd, 0, 0, 0, xs⟩ ∧ IeOk H' e ∧ Chg (fun b => b = q) G H' ∧ ∀ b, In1 e.a b → G.next ≤ b := by
  have hln := hs.ln
  intro rest
  induction rest with
  | nil =>
    intro j a k H hd hj ho hk
    simp only [List.length_nil] at hj
    have : j = sn := by omega
    subst this
    rw [List.take_of_length_le (by omega)] at ho
    obtain ⟨us, hl, gq⟩ := gq
    obtain ⟨H3, c3, k3⟩ := F38.lists kd a j k xs H
    have n3 := k3.next
    have nk := hk.next
    obtain ⟨H4, s4, g4, c4, n4⟩ := rowAll (us := Ie.cells ⟨⟨kd, 0, 0, 0, xs⟩, a, j, k⟩) (by rw [k3.get _ (by omega), hk.get _ hq]; exact gq : H3.get q = .row us true) (by omega) (by rw [hl]; rfl)
    refine ⟨⟨⟨kd, 0, 0, 0, xs⟩, a, j, k⟩, H4, L0_step ?_, rfl, ⟨?_, by show j ≤ 17592186044416; omega⟩, ((hk.trans (k3.weak nk)).chg0).trans c4 fun _ _ h => h, fun b hb => (ho.lt hb).1⟩
    · rw [if_neg (by omega)]
      exact ⟨_, _, _, _, _, _, _, _, c3, H4, s4, _, _, _, _, _, _, _, rldAll g4, rfl⟩
    · exact ((ho.keep k3).chg c4 fun b hb' h => by have := ((ho.keep k3).lt hb').1; have h : b = q := h; omega).sl
  | cons x rest ih =>
    intro j a k H hd hj ho hk
    simp only [List.length_cons] at hj
    have hx := drop_get hd
    obtain ⟨b, o, rfl⟩ := hs.at (by omega)
    have s1 := hs.keep hk
    obtain ⟨H1, e1, m1, g1, k1⟩ := one H [.int .i64 (IntKind.wrap .i64 x)]
    have hxb := hb.get hx
    rw [i64 (by omega) (by omega)] at e1 g1
    have sl1 : Ints .i64 H1 (some ⟨H.next, 0, none⟩) 1 (UNK 1) [x] := Sl.ofRow g1 (by omega)
    have nk := hk.next
    obtain ⟨a2, k2, H2, c2, o2, kp2⟩ := OwnI.app 8 (ho.keep k1) sl1 (by omega) (by omega) (by omega)
    have et : xs.take j ++ [x] = xs.take (j + 1) := by rw [List.take_add_one, hx]; rfl
    rw [et] at o2
    obtain ⟨e, H', z, hv, he, hc, hf⟩ := ih (j + 1) a2 k2 H2 (drop_next hd) (by omega) o2 ((hk.trans (k1.weak nk)).trans kp2)
    refine ⟨e, H', L0_step ?_, hv, he, hc, hf⟩
    rw [if_pos (by omega)]
    refine ⟨b, o, rfl, by omega, by omega, x, Ints.get s1 hx, H1, ?_, _, _, _, _, c2, ?_⟩
    · rw [i64 (by omega) (by omega)]; exact e1
    · rw [i64 (by omega) (by omega)]; exact_mod_cast z
theorem ok {H : Heap} {p : Nat} {a : Option Addr} {bs : List Int} {j n : Nat} {kd : Int} (hb : IsB bs) (hbl : bs.length ≤ 1000000) (h : RB H p a bs j) (hkd : 1 ≤ kd ∧ kd ≤ 4) (hr : rightP kd n) : ∃ (e : Ie) (a2 : Option Addr) (H' : Heap), Ce 75 [.pointer (some ⟨p, 0, none⟩), .int .i64 kd, .int .i64 (n : Int)] H = some (e.agg, H') ∧ e.v = mkV bs kd n j ∧ IeOk H' e ∧ RB H' p a2 bs (j + n) ∧ Fd p a a2 H H' ∧ ∀ b, In1 e.a b → H.next ≤ b := by
  obtain ⟨H1, e1, m1, g1, k1⟩ := one H ie0.cells
  have lt := RM.lt h
  have h1 := h.new k1
  obtain ⟨H2, c2, k2⟩ := F37.ok (kdIe kd) H1
  have k02 := k1.trans (k2.weak (by omega : H.next ≤ H1.next))
  have h2 := h1.new k2
  have n2 := k2.next
  have g2 : H2.get H.next = .row ie0.cells true := by rw [k2.get _ (by omega)]; exact g1
  unfold rightP at hr
  unfold mkV
  unfold ofV at c2
  by_cases hk1 : kd = 1
  · rw [if_pos hk1] at hr c2 ⊢
    have hn6 : n = 6 := by omega
    subst hn6
    obtain ⟨H4, s4, g4, k4, n4⟩ := fill H2 [.int .i64 0, .int .i64 0] [.int .i64 0, .int .i64 0] rfl
    have h4 := h2.new k4
    obtain ⟨a5, H5, c5, h5, f5⟩ := h4.take (w := 5) (by omega) (by omega)
    obtain ⟨a6, H6, c6, h6, f6⟩ := h5.take (w := 1) (by omega) (by omega)
    have f46 := f5.trans f6
    have n6 := f46.chg.next
    obtain ⟨e7, y0, y1⟩ := stV_one hb (j + 5)
    rw [e7] at c6
    obtain ⟨H7, c7, k7⟩ := F38.syncs kd (IntKind.wrap .i64 (stV bs j 5)) (bs.getD (j + 5) 0) H6
    have h7 := h6.new k7
    have n7 := k7.next
    have g7 : H7.get H.next = .row ie0.cells true := by rw [k7.get _ (by omega), f46.at (by omega) (by omega), k4.get _ (by omega)]; exact g2
    obtain ⟨H8, s8, g8, c8, n8⟩ := rowAll (us := Ie.cells ⟨⟨kd, IntKind.wrap .i64 (stV bs j 5), bs.getD (j + 5) 0, 0, []⟩, none, 0, 0⟩) g7 (by omega) rfl
    have al := h.alt
    have h8 : RB H8 p a6 bs (j + 6) := h7.row c8 (by omega) fun b hb => by have := al b (f46.arr b hb); omega
    have fAll : Fd p a a6 H H8 := ⟨⟨by omega, fun b hb hne => by
      rw [c8.get b (by omega) (by omega), k7.get b (by omega), f46.chg.get b (by omega) hne, k4.get b (by omega), k02.get b hb]⟩, f46.arr⟩
    refine ⟨⟨⟨kd, IntKind.wrap .i64 (stV bs j 5), bs.getD (j + 5) 0, 0, []⟩, none, 0, 0⟩, a6, H8, call ⟨_, e1, _, _, c2, .inr ⟨94, _, rfl, ?_⟩⟩, rfl, ⟨Ints.nil, by show 0 ≤ _; omega⟩, h8, fAll, fun b hb => absurd hb In1.none⟩
    rw [if_pos rfl]
    refine ⟨_, _, rfl, _, rfl, H4, s4, _, _, c5, _, _, c6, _, _, _, _, _, _, _, _, ?_, H8, s8, _, _, _, _, _, _, _, rldAll g8, rfl⟩
    rw [show IntKind.wrap .i64 (bs.getD (j + 5) 0) = bs.getD (j + 5) 0 from i64 (by omega) (by omega)]
    exact c7
  rw [if_neg hk1] at hr c2 ⊢
  by_cases hk2 : kd = 2
  · rw [if_pos hk2] at hr c2 ⊢
    have hn2 : n = 2 := by omega
    subst hn2
    obtain ⟨H4, s4, g4, k4, n4⟩ := fill H2 [.int .i64 0, .int .i64 0] [.int .i64 0, .int .i64 0] rfl
    obtain ⟨H5, s5, g5, k5, n5⟩ := fill H4 [.int .i64 0] [.int .i64 0] rfl
    have h5 := (h2.new k4).new k5
    obtain ⟨a6, H6, c6, h6, f6⟩ := h5.take (w := 2) (by omega) (by omega)
    have n6 := f6.chg.next
    obtain ⟨H7, c7, k7⟩ := F38.cor kd (IntKind.wrap .i64 (IntKind.wrap .i16 (stV bs j 2))) H6
    have h7 := h6.new k7
    have n7 := k7.next
    have g7 : H7.get H.next = .row ie0.cells true := by rw [k7.get _ (by omega), f6.at (by omega) (by omega), k5.get _ (by omega), k4.get _ (by omega)]; exact g2
    obtain ⟨H8, s8, g8, c8, n8⟩ := rowAll (us := Ie.cells ⟨⟨kd, 0, 0, IntKind.wrap .i64 (IntKind.wrap .i16 (stV bs j 2)), []⟩, none, 0, 0⟩) g7 (by omega) rfl
    have al := h.alt
    have h8 : RB H8 p a6 bs (j + 2) := h7.row c8 (by omega) fun b hb => by have := al b (f6.arr b hb); omega
    have fAll : Fd p a a6 H H8 := ⟨⟨by omega, fun b hb hne => by
      rw [c8.get b (by omega) (by omega), k7.get b (by omega), f6.chg.get b (by omega) hne, k5.get b (by omega), k4.get b (by omega), k02.get b hb]⟩, f6.arr⟩
    refine ⟨⟨⟨kd, 0, 0, IntKind.wrap .i64 (IntKind.wrap .i16 (stV bs j 2)), []⟩, none, 0, 0⟩, a6, H8, call ⟨_, e1, _, _, c2, .inr ⟨96, _, rfl, ?_⟩⟩, rfl, ⟨Ints.nil, by show 0 ≤ _; omega⟩, h8, fAll, fun b hb => absurd hb In1.none⟩
    rw [if_neg (by decide)]
    refine ⟨_, rfl, H4, s4, ?_⟩
    rw [if_pos rfl]
    exact ⟨_, rfl, _, rfl, H5, s5, _, _, c6, _, _, _, _, _, _, _, _, c7, H8, s8, _, _, _, _, _, _, _, rldAll g8, rfl⟩
  rw [if_neg hk2] at hr c2 ⊢
  have hk3 : kd = 3 ∨ kd = 4 := by omega
  rw [if_pos hk3] at c2
  obtain ⟨H4, s4, g4, k4, n4⟩ := fill H2 [.int .i64 0, .int .i64 0] [.int .i64 0, .int .i64 0] rfl
  obtain ⟨H5, s5, g5, k5, n5⟩ := fill H4 [.int .i64 0] [.int .i64 0] rfl
  have h5 := (h2.new k4).new k5
  obtain ⟨a6, s, sk, H6, c6, o6, h6, f6⟩ := h5.text hb n
  have n6 := f6.chg.next
  have g6 : H6.get H.next = .row ie0.cells true := by rw [f6.at (by omega) (by omega), k5.get _ (by omega), k4.get _ (by omega)]; exact g2
  have hbt : IsB (stT bs j n) := by
    unfold stT; split
    · exact fun x hx => hb x (List.mem_of_mem_drop (List.mem_of_mem_take hx))
    · exact isB_nil
  have hlt : (stT bs j n).length ≤ 1000000 := by
    unfold stT; split
    · simp; omega
    · simp
  obtain ⟨e, H8, z, hv, he, c8, hf⟩ := l0 (q := H.next) (kd := kd) o6.sl hbt hlt (by omega) ⟨ie0.cells, rfl, g6⟩ (stT bs j n) 0 none 0 H6 rfl (by omega) OwnI.nil (Keep.refl _ _)
  have n8 := c8.next
  have al := h.alt
  have h8 : RB H8 p a6 bs (j + n) := h6.row c8 (by omega) fun b hb => by have := al b (f6.arr b hb); omega
  have fAll : Fd p a a6 H H8 := ⟨⟨by omega, fun b hb hne => by
    rw [c8.get b (by omega) (by omega), f6.chg.get b (by omega) hne, k5.get b (by omega), k4.get b (by omega), k02.get b hb]⟩, f6.arr⟩
  refine ⟨e, a6, H8, call ⟨_, e1, _, _, c2, .inr ⟨98, _, rfl, ?_⟩⟩, hv, he, h8, fAll, fun b hb => by have := hf b hb; omega⟩
  rw [if_neg (by decide)]
  refine ⟨_, rfl, H4, s4, ?_⟩
  rw [if_neg (by decide)]
  exact ⟨_, rfl, H5, s5, _, _, _, _, c6, z⟩
end F75

theorem ofV_nil {kd : Int} (h : ¬(1 ≤ kd ∧ kd ≤ 4)) : ofV (kdIe kd) = .nilIface := by
  unfold ofV
  rw [if_neg (by show ¬kd = 1; omega), if_neg (by show ¬kd = 2; omega), if_neg (by show ¬(kd = 3 ∨ kd = 4); omega)]
theorem ofV_some {kd : Int} (h : 1 ≤ kd ∧ kd ≤ 4) : ∃ t v, ofV (kdIe kd) = .iface t v := by
  unfold ofV
  split
  · exact ⟨_, _, rfl⟩
  · split
    · exact ⟨_, _, rfl⟩
    · rw [if_pos (by rename_i h1 h2; have h1 : ¬kd = 1 := h1; have h2 : ¬kd = 2 := h2; show kd = 3 ∨ kd = 4; omega)]
      exact ⟨_, _, rfl⟩
namespace F51
/-- What one element's taking comes to. -/
def Post (bs : List Int) (j p : Nat) (a : Option Addr) (H : Heap) (e : Ie) (er : Int) (H' : Heap) : Prop :=
  match decI bs j with
  | .error x => er = x ∧ x ≠ 0 ∧ Chg (fun b => b = p) H H'
  | .ok (v, j') => er = 0 ∧ e.v = v ∧ IeOk H' e ∧ (∀ b, In1 e.a b → H.next ≤ b) ∧ ∃ a2, RB H' p a2 bs j' ∧ Fd p a a2 H H'
theorem ok {H : Heap} {p : Nat} {a : Option Addr} {bs : List Int} {j : Nat} (hb : IsB bs) (hbl : bs.length ≤ 1000000) (h : RB H p a bs j) : ∃ (e : Ie) (er : Int) (H' : Heap), Ce 51 [.pointer (some ⟨p, 0, none⟩)] H = some (.tuple #[e.agg, .int .i64 er], H') ∧ Post bs j p a H e er H' := by
  obtain ⟨H1, e1, m1, g1, k1⟩ := one H ie0.cells
  have lt := RM.lt h
  obtain ⟨a2, H2, c2, h2, f2⟩ := (h.new k1).take (w := 1) (by omega) (by omega)
  obtain ⟨ev, y0, y1⟩ := stV_one hb j
  rw [ev] at c2
  have n2 := f2.chg.next
  have g2 : H2.get H.next = .row ie0.cells true := by rw [f2.at (by omega) (by omega)]; exact g1
  have c3 := F50.ok h2
  have w2 : IntKind.wrap .i64 (bs.getD j 0) = bs.getD j 0 := i64 (by omega) (by omega)
  unfold Post decI
  by_cases b1 : bs.length < j + 1
  · rw [if_pos b1]
    obtain ⟨H4, s4, g4, c4, n4⟩ := rowAll (us := ie0.cells) g2 (by omega) rfl
    refine ⟨ie0, 2, H4, call ⟨_, e1, _, _, c2, _, _, c3, ?_⟩, rfl, by decide, ⟨by omega, fun b hb hne => by rw [c4.get b (by omega) (by omega), f2.chg.get b (by omega) hne, k1.get b hb]⟩⟩
    rw [if_pos (by simpa using b1)]
    exact ⟨H4, s4, _, _, _, _, _, _, _, rldAll g4, rfl⟩
  rw [if_neg b1]
  obtain ⟨H5, c5, k5⟩ := F37.ok (kdIe (bs.getD j 0)) H2
  have n5 := k5.next
  have g5 : H5.get H.next = .row ie0.cells true := by rw [k5.get _ (by omega)]; exact g2
  by_cases b2 : ¬(1 ≤ bs.getD j 0 ∧ bs.getD j 0 ≤ 4)
  · rw [if_pos b2]
    obtain ⟨H4, s4, g4, c4, n4⟩ := rowAll (us := ie0.cells) g5 (by omega) rfl
    refine ⟨ie0, 3, H4, call ⟨_, e1, _, _, c2, _, _, c3, ?_⟩, rfl, by decide, ⟨by omega, fun b hb hne => by rw [c4.get b (by omega) (by omega), k5.get b (by omega), f2.chg.get b (by omega) hne, k1.get b hb]⟩⟩
    rw [if_neg (by simpa using b1), w2]
    refine ⟨_, _, c5, .inl ⟨ofV_nil b2, H4, s4, _, _, _, _, _, _, _, rldAll g4, rfl⟩⟩
  rw [if_neg b2]
  have b2' : 1 ≤ bs.getD j 0 ∧ bs.getD j 0 ≤ 4 := Decidable.byContradiction b2
  obtain ⟨t, v, ho⟩ := ofV_some b2'
  obtain ⟨a7, H7, c7, h7, f7⟩ := (h2.new k5).take (w := 1) (by omega) (by omega)
  obtain ⟨ev7, z0, z1⟩ := stV_one hb (j + 1)
  rw [ev7] at c7
  have n7 := f7.chg.next
  have g7 : H7.get H.next = .row ie0.cells true := by rw [f7.at (by omega) (by omega)]; exact g5
  have c8 := F50.ok h7
  have w7 : IntKind.wrap .i64 (bs.getD (j + 1) 0) = bs.getD (j + 1) 0 := i64 (by omega) (by omega)
  have start : ∀ (e : Ie) (er : Int) (H' : Heap), (if decide (bs.length < j + 1 + 1) = true then (∃ (H_9 : Heap), stc H7 H.next 0 ie0.cells = some H_9 ∧ ∃ (r2c0 : Int) (r2c1 : Int) (r2c2 : Int) (r2c3 : Int) (r2c4a : Option Addr) (r2c4n : Nat) (r2c4k : Nat), ldAll H_9 H.next 0 [.int .i64 r2c0, .int .i64 r2c1, .int .i64 r2c2, .int .i64 r2c3, .slice r2c4a r2c4n r2c4k] ∧ ((Value.tuple #[e.agg, .int .i64 er], H') : Value × Heap) = (.tuple #[.agg #[.int .i64 r2c0, .int .i64 r2c1, .int .i64 r2c2, .int .i64 r2c3, .slice r2c4a r2c4n r2c4k], .int .i64 2], H_9)) else
      (∃ (t26 : Bool) (H_10 : Heap), Ce 74 [.int .i64 (bs.getD j 0), .int .i64 (bs.getD (j + 1) 0)] H7 = some (.bool t26, H_10) ∧ if t26 = true then (∃ (t32c0 : Int) (t32c1 : Int) (t32c2 : Int) (t32c3 : Int) (t32c4a : Option Addr) (t32c4n : Nat) (t32c4k : Nat) (H_11 : Heap), Ce 75 [.pointer (some ⟨p, 0, none⟩), .int .i64 (bs.getD j 0), .int .i64 (bs.getD (j + 1) 0)] H_10 = some (.agg #[.int .i64 t32c0, .int .i64 t32c1, .int .i64 t32c2, .int .i64 t32c3, .slice t32c4a t32c4n t32c4k], H_11) ∧
    (∃ (H_12 : Heap), H_12 = H_11.push (.row [.int .i64 0, .int .i64 0, .int .i64 0, .int .i64 0, .slice none 0 0] true) ∧
    (∃ (H_13 : Heap), stc H_12 H_11.next 0 [.int .i64 t32c0, .int .i64 t32c1, .int .i64 t32c2, .int .i64 t32c3, .slice t32c4a t32c4n t32c4k] = some H_13 ∧
    (∃ (t34 : Bool) (H_14 : Heap), Ce 50 [.pointer (some ⟨p, 0, none⟩)] H_13 = some (.bool t34, H_14) ∧
    (if t34 = true then
    (∃ (H_15 : Heap), stc H_14 H.next 0 [.int .i64 0, .int .i64 0, .int .i64 0, .int .i64 0, .slice none 0 0] = some H_15 ∧
    (∃ (r2c0_3 : Int) (r2c1_3 : Int) (r2c2_3 : Int) (r2c3_3 : Int) (r2c4a_3 : Option Addr) (r2c4n_3 : Nat) (r2c4k_3 : Nat), ldAll H_15 H.next 0 [.int .i64 r2c0_3, .int .i64 r2c1_3, .int .i64 r2c2_3, .int .i64 r2c3_3, .slice r2c4a_3 r2c4n_3 r2c4k_3] ∧
    (((Value.tuple #[e.agg, .int .i64 er], H') : Value × Heap) = (.tuple #[.agg #[.int .i64 r2c0_3, .int .i64 r2c1_3, .int .i64 r2c2_3, .int .i64 r2c3_3, .slice r2c4a_3 r2c4n_3 r2c4k_3], .int .i64 2], H_15))))
    else
    (∃ (t36c0 : Int) (t36c1 : Int) (t36c2 : Int) (t36c3 : Int) (t36c4a : Option Addr) (t36c4n : Nat) (t36c4k : Nat), ldAll H_14 H_11.next 0 [.int .i64 t36c0, .int .i64 t36c1, .int .i64 t36c2, .int .i64 t36c3, .slice t36c4a t36c4n t36c4k] ∧
    (∃ (H_16 : Heap), stc H_14 H.next 0 [.int .i64 t36c0, .int .i64 t36c1, .int .i64 t36c2, .int .i64 t36c3, .slice t36c4a t36c4n t36c4k] = some H_16 ∧
    (∃ (r2c0_4 : Int) (r2c1_4 : Int) (r2c2_4 : Int) (r2c3_4 : Int) (r2c4a_4 : Option Addr) (r2c4n_4 : Nat) (r2c4k_4 : Nat), ldAll H_16 H.next 0 [.int .i64 r2c0_4, .int .i64 r2c1_4, .int .i64 r2c2_4, .int .i64 r2c3_4, .slice r2c4a_4 r2c4n_4 r2c4k_4] ∧
    (((Value.tuple #[e.agg, .int .i64 er], H') : Value × Heap) = (.tuple #[.agg #[.int .i64 r2c0_4, .int .i64 r2c1_4, .int .i64 r2c2_4, .int .i64 r2c3_4, .slice r2c4a_4 r2c4n_4 r2c4k_4], .int .i64 0], H_16))))))))))
    else
    (∃ (H_17 : Heap), stc H_10 H.next 0 [.int .i64 0, .int .i64 0, .int .i64 0, .int .i64 0, .slice none 0 0] = some H_17 ∧
    (∃ (r2c0_5 : Int) (r2c1_5 : Int) (r2c2_5 : Int) (r2c3_5 : Int) (r2c4a_5 : Option Addr) (r2c4n_5 : Nat) (r2c4k_5 : Nat), ldAll H_17 H.next 0 [.int .i64 r2c0_5, .int .i64 r2c1_5, .int .i64 r2c2_5, .int .i64 r2c3_5, .slice r2c4a_5 r2c4n_5 r2c4k_5] ∧
    (((Value.tuple #[e.agg, .int .i64 er], H') : Value × Heap) = (.tuple #[.agg #[.int .i64 r2c0_5, .int .i64 r2c1_5, .int .i64 r2c2_5, .int .i64 r2c3_5, .slice r2c4a_5 r2c4n_5 r2c4k_5], .int .i64 3], H_17)))))) → Ce 51 [.pointer (some ⟨p, 0, none⟩)] H = some (.tuple #[e.agg, .int .i64 er], H') := by
    intro e er H' z
    refine call ⟨_, e1, _, _, c2, _, _, c3, ?_⟩
    rw [if_neg (by simpa using b1), w2]
    refine ⟨_, _, c5, .inr ⟨t, v, ho, _, _, c7, _, _, c8, ?_⟩⟩
    rw [w7]
    exact z
  by_cases b3 : bs.length < j + 2
  · rw [if_pos b3]
    obtain ⟨H4, s4, g4, c4, n4⟩ := rowAll (us := ie0.cells) g7 (by omega) rfl
    refine ⟨ie0, 2, H4, start _ _ _ ?_, rfl, by decide, ⟨by omega, fun b hb hne => by rw [c4.get b (by omega) (by omega), f7.chg.get b (by omega) hne, k5.get b (by omega), f2.chg.get b (by omega) hne, k1.get b hb]⟩⟩
    rw [if_pos (by simpa using b3)]
    exact ⟨H4, s4, _, _, _, _, _, _, _, rldAll g4, rfl⟩
  rw [if_neg b3]
  obtain ⟨H10, c10, k10⟩ := F74.ok (bs.getD j 0) (bs.getD (j + 1) 0) H7
  have n10 := k10.next
  have g10 : H10.get H.next = .row ie0.cells true := by rw [k10.get _ (by omega)]; exact g7
  by_cases b4 : ¬rightP (bs.getD j 0) (bs.getD (j + 1) 0)
  · rw [if_pos b4]
    obtain ⟨H4, s4, g4, c4, n4⟩ := rowAll (us := ie0.cells) g10 (by omega) rfl
    refine ⟨ie0, 3, H4, start _ _ _ ?_, rfl, by decide, ⟨by omega, fun b hb hne => by rw [c4.get b (by omega) (by omega), k10.get b (by omega), f7.chg.get b (by omega) hne, k5.get b (by omega), f2.chg.get b (by omega) hne, k1.get b hb]⟩⟩
    rw [if_neg (by simpa using b3)]
    refine ⟨_, _, c10, ?_⟩
    rw [if_neg (by simpa using b4)]
    exact ⟨H4, s4, _, _, _, _, _, _, _, rldAll g4, rfl⟩
  rw [if_neg b4]
  have b4' : rightP (bs.getD j 0) (bs.getD (j + 1) 0) := Decidable.byContradiction b4
  have ez : (((bs.getD (j + 1) 0).toNat : Nat) : Int) = bs.getD (j + 1) 0 := by omega
  obtain ⟨e11, a11, H11, c11, v11, h11, r11, f11, s11⟩ := F75.ok (n := (bs.getD (j + 1) 0).toNat) hb hbl (h7.new k10) b2' (by rw [ez]; exact b4')
  rw [ez] at c11
  have n11 := f11.chg.next
  have g11 : H11.get H.next = .row ie0.cells true := by rw [f11.at (by omega) (by omega)]; exact g10
  obtain ⟨H13, s13, g13, k13, n13⟩ := scratchE (H := H11) (e := e11)
  have r13 := r11.new k13
  have c14 := F50.ok r13
  have g13' : H13.get H.next = .row ie0.cells true := by rw [k13.get _ (by omega)]; exact g11
  have ej : j + 1 + 1 + (bs.getD (j + 1) 0).toNat = j + 2 + (bs.getD (j + 1) 0).toNat := by omega
  rw [ej] at c14 r13
  by_cases b5 : bs.length < j + 2 + (bs.getD (j + 1) 0).toNat
  · rw [if_pos b5]
    obtain ⟨H4, s4, g4, c4, n4⟩ := rowAll (us := ie0.cells) g13' (by omega) rfl
    refine ⟨ie0, 2, H4, start _ _ _ ?_, rfl, by decide, ⟨by omega, fun b hb hne => by rw [c4.get b (by omega) (by omega), k13.get b (by omega), f11.chg.get b (by omega) hne, k10.get b (by omega), f7.chg.get b (by omega) hne, k5.get b (by omega), f2.chg.get b (by omega) hne, k1.get b hb]⟩⟩
    rw [if_neg (by simpa using b3)]
    refine ⟨_, _, c10, ?_⟩
    rw [if_pos (by simpa using b4')]
    refine ⟨_, _, _, _, _, _, _, _, c11, _, rfl, H13, s13, _, _, c14, ?_⟩
    rw [if_pos (by simpa using b5)]
    exact ⟨H4, s4, _, _, _, _, _, _, _, rldAll g4, rfl⟩
  rw [if_neg b5]
  obtain ⟨H16, s16, g16, c16, n16⟩ := rowAll (us := e11.cells) g13' (by omega) rfl
  have al := RM.alt h
  have fr : ∀ b, In1 a11 b → In1 a b := fun b hb => f2.arr b (f7.arr b (f11.arr b hb))
  have r16 : RB H16 p a11 bs (j + 2 + (bs.getD (j + 1) 0).toNat) := r13.row c16 (by omega) fun b hb => by have := al b (fr b hb); omega
  have h16 : IeOk H16 e11 := ⟨(h11.keep k13).s.chg c16 fun b hb hq => by
    have := s11 b hb
    have hq : b = H.next := hq
    omega, h11.sm⟩
  refine ⟨e11, 0, H16, start _ _ _ ?_, rfl, v11, h16, fun b hb => by have := s11 b hb; omega, a11, r16, ⟨⟨by omega, fun b hb hne => ?_⟩, fr⟩⟩
  · rw [if_neg (by simpa using b3)]
    refine ⟨_, _, c10, ?_⟩
    rw [if_pos (by simpa using b4')]
    refine ⟨_, _, _, _, _, _, _, _, c11, _, rfl, H13, s13, _, _, c14, ?_⟩
    rw [if_neg (by simpa using b5)]
    exact ⟨_, _, _, _, _, _, _, rldAll g13, H16, s16, _, _, _, _, _, _, _, rldAll g16, rfl⟩
  · rw [c16.get b (by omega) (by omega), k13.get b (by omega), f11.chg.get b (by omega) hne, k10.get b (by omega), f7.chg.get b (by omega) hne, k5.get b (by omega), f2.chg.get b (by omega) hne, k1.get b hb]
end F51
/-- A list of elements that grows beside a reader. -/
structure DI (G H : Heap) (p : Nat) (a : Option Addr) (n k : Nat) (acc : List Ie) : Prop where
  c : Chg (fun b => b = p) G H
  o : Own G.next H 5 a n k (acc.flatMap Ie.cells)
  ok : ∀ e ∈ acc, IeOk H e
  sp : ∀ e ∈ acc, ∀ b, In1 e.a b → G.next ≤ b ∧ ¬In1 a b
theorem DI.app {G H H' : Heap} {p n k : Nat} {a : Option Addr} {acc : List Ie} {e : Ie} (h : DI G H p a n k acc) (hp : p < G.next) (c : Chg (fun b => b = p) H H') (he : IeOk H' e) (hs : ∀ b, In1 e.a b → H.next ≤ b) (hn : n ≤ 1000) :
    ∃ a' k' H5, papp (H'.push (.row e.cells true)) 5 56 a n k (some ⟨H'.next, 0, none⟩) 1 (UNK 5) = some ((a', n + 1, k'), H5) ∧ DI G H5 p a' (n + 1) k' (acc ++ [e]) ∧ Chg (fun b => G.next ≤ b) H' H5 := by
  have hG := h.c.next
  have hn' := c.next
  have k1 : Keep H'.next H' (H'.push (.row e.cells true)) := Keep.push _ (Nat.le_refl _)
  have o1 := h.o.chg c fun b hb hq => by have := (h.o.lt hb).1; have hq : b = p := hq; omega
  obtain ⟨a', k', H5, c5, o5, g5, r5⟩ := Own.append' (by_ := 56) (o1.keep k1) (Ies.one H' e true) (by decide) (by simp; omega) (by omega) (by omega)
  have n5 := g5.next
  have hn1 : (H'.push (.row e.cells true)).next = H'.next + 1 := rfl
  rw [← List.flatMap_append] at o5
  have ga : ∀ b, In1 a b → G.next ≤ b ∧ b < H.next := fun b hb => h.o.lt hb
  have fin : ∀ x : Ie, IeOk H' x → (∀ b, In1 x.a b → ¬In1 a b) → IeOk H5 x := fun x hx hxs => ⟨(hx.keep k1).s.chg g5 fun b hb hq => hxs b hb hq, hx.sm⟩
  have cH5 : Chg (fun b => G.next ≤ b) H' H5 := (k1.chg0 (S := fun b => G.next ≤ b)).trans g5 fun b _ hb => (ga b hb).1
  refine ⟨a', k', H5, c5, ⟨⟨by omega, fun b hb hne => ?_⟩, o5, fun x hx => ?_, fun x hx b hb => ?_⟩, cH5⟩
  · rw [cH5.get b (by omega) (by omega), c.get b (by omega) hne, h.c.get b hb hne]
  · rcases List.mem_append.1 hx with hx | hx
    · exact fin x ⟨(h.ok x hx).s.chg c fun b hb hq => by have := (h.sp x hx b hb).1; have hq : b = p := hq; omega, (h.ok x hx).sm⟩ fun b hb => (h.sp x hx b hb).2
    · rw [List.mem_singleton.1 hx]
      exact fin e he fun b hb hq => by have := hs b hb; have := (ga b hq).2; omega
  · have key : G.next ≤ b ∧ ¬In1 a b ∧ b < H'.next := by
      rcases List.mem_append.1 hx with hx | hx
      · have := h.sp x hx b hb
        have := (h.ok x hx).s.lt hb
        exact ⟨by omega, (h.sp x hx b hb).2, by omega⟩
      · rw [List.mem_singleton.1 hx] at hb
        have := hs b hb
        exact ⟨by omega, fun hq => by have := (ga b hq).2; omega, he.s.lt hb⟩
    refine ⟨key.1, fun hq => ?_⟩
    rcases r5 b hq with hq | hq
    · exact key.2.1 hq
    · have := key.2.2; omega
namespace F23
/-- What decoding comes to. -/
def Post (H : Heap) (r : List VE × Int) (L : Value × Heap → Prop) : Prop := ∃ (l : List Ie) (a' : Option Addr) (k' : Nat) (H' : Heap), L (.tuple #[.slice a' l.length k', .int .i64 r.2], H') ∧ l.map Ie.v = r.1 ∧ Ies H' a' l.length k' l ∧ (∀ e ∈ l, IeOk H' e) ∧ Keep H.next H H' ∧ (∀ b, In1 a' b → H.next ≤ b) ∧ ∀ e ∈ l, ∀ b, In1 e.a b → H.next ≤ b
theorem Post.bad {H0 : Heap} {er : Int} {L : Value × Heap → Prop} {H' : Heap} (k : Keep H0.next H0 H') (z : L (.tuple #[.slice none 0 0, .int .i64 er], H')) : Post H0 ([], er) L :=
  ⟨[], none, 0, H', z, rfl, ⟨rfl, .inl ⟨rfl, rfl, rfl⟩⟩, by simp, k, fun b hb => absurd hb In1.none, by simp⟩
theorem l0 {H0 G : Heap} {p : Nat} {bs : List Int} (hb : IsB bs) (hbl : bs.length ≤ 1000000) (kG : Keep H0.next H0 G) (hp0 : H0.next ≤ p) (hp : p < G.next) {m : Nat} (hm : m ≤ 4) : ∀ (d i j : Nat) (ar : Option Addr) (acc : List Ie) (a : Option Addr) (k : Nat) (H : Heap), i + d = m → acc.length = i → RB H p ar bs j → (∀ b, In1 ar b → b < G.next) → DI G H p a i k acc →
    Post H0 (decGo bs d j (acc.map Ie.v)) (L0 (some ⟨p, 0, none⟩) a i k (m : Int) (i : Int) H) := by
  intro d
  induction d with
  | zero =>
    intro i j ar acc a k H hi hl h har hd
    have kH : Keep H0.next H0 H := kG.trans (hd.c.keep kG.next fun b _ hb => by have hb : b = p := hb; omega)
    have c6 := h.end_
    unfold decGo
    by_cases b1 : bs.length < j
    · rw [if_pos b1] at c6 ⊢
      refine Post.bad kH (L0_step ?_)
      rw [if_neg (by omega)]
      refine ⟨_, _, c6, ?_⟩
      rw [if_neg (by decide)]
    rw [if_neg b1] at c6 ⊢
    by_cases b2 : j < bs.length
    · rw [if_pos b2] at c6 ⊢
      refine Post.bad kH (L0_step ?_)
      rw [if_neg (by omega)]
      refine ⟨_, _, c6, ?_⟩
      rw [if_neg (by decide)]
    rw [if_neg b2] at c6 ⊢
    subst hl
    refine ⟨acc, a, k, H, L0_step ?_, rfl, hd.o.sl, hd.ok, kH, fun b hb => by have := (hd.o.lt hb).1; have := kG.next; omega, fun e he b hb => by have := (hd.sp e he b hb).1; have := kG.next; omega⟩
    rw [if_neg (by omega)]
    refine ⟨_, _, c6, ?_⟩
    rw [if_pos rfl]
  | succ d ih =>
    intro i j ar acc a k H hi hl h har hd
    have kH : Keep H0.next H0 H := kG.trans (hd.c.keep kG.next fun b _ hb => by have hb : b = p := hb; omega)
    obtain ⟨e1, er, H1, c1, hpost⟩ := F51.ok hb hbl h
    obtain ⟨H3, s3, g3, k3, n3⟩ := scratchE (H := H1) (e := e1)
    unfold F51.Post at hpost
    unfold decGo
    cases hdec : decI bs j with
    | error x =>
      rw [hdec] at hpost
      obtain ⟨rfl, hne, hnx⟩ := hpost
      simp only
      refine Post.bad (kH.trans ((hnx.trans (k3.chg0 (S := fun b => b = p)) fun _ _ h => h).keep kH.next fun b _ hb => by have hb : b = p := hb; omega)) (L0_step ?_)
      rw [if_pos (by omega)]
      refine ⟨_, _, _, _, _, _, _, _, _, c1, _, rfl, H3, s3, ?_⟩
      rw [if_neg hne]
    | ok r =>
      obtain ⟨v, j'⟩ := r
      rw [hdec] at hpost
      obtain ⟨rfl, hv, he, hes, a2, h2, f2⟩ := hpost
      simp only
      have f13 : Chg (fun b => b = p) H H3 := f2.chg.trans (k3.chg0 (S := fun b => b = p)) fun _ _ h => h
      obtain ⟨a', k', H5, c5, hd5, g5⟩ := hd.app hp f13 (he.keep k3) hes (by omega)
      have fr : ∀ b, In1 a2 b → b < G.next := fun b hb => har b (f2.arr b hb)
      have h5 : RB H5 p a2 bs j' := RM.chg (h2.new k3) g5 (by omega) fun b hb hq => by have := fr b hb; omega
      have := ih (i + 1) j' a2 (acc ++ [e1]) a' k' H5 (by omega) (by simp [hl]) h5 fr hd5
      rw [List.map_append, List.map_cons, List.map_nil, hv] at this
      obtain ⟨l, al, kl, Hl, z, hz⟩ := this
      refine ⟨l, al, kl, Hl, L0_step ?_, hz⟩
      rw [if_pos (by omega)]
      refine ⟨_, _, _, _, _, _, _, _, _, c1, _, rfl, H3, s3, ?_⟩
      rw [if_pos rfl]
      refine ⟨_, _, _, _, _, _, _, rldAll g3, _, rfl, _, _, _, _, c5, ?_⟩
      rw [i64 (by omega) (by omega)]
      exact_mod_cast z
theorem ok {H : Heap} {s : Option Addr} {sn sk : Nat} {bs : List Int} (hs : By H s sn sk bs) (hb : IsB bs) (hbl : bs.length ≤ 1000000) : Post H (decL bs) (fun r => Ce 23 [.slice s sn sk] H = some r) := by
  have hl := hs.ln
  obtain ⟨p, a1, H1, c1, r1, hp1, ha1, k1⟩ := F48.ok hs hb (by omega)
  have r1' : RB H1 p a1 bs 0 := by
    unfold RB stR stE
    rw [if_pos (by omega), if_pos (by omega), List.drop_zero, ← unpack_tbits hb]
    exact r1
  obtain ⟨a2, H2, c2, r2, f2⟩ := r1'.take (w := 1) (by omega) (by omega)
  obtain ⟨ev, y0, y1⟩ := stV_one hb 0
  rw [ev] at c2
  have c3 := F50.ok r2
  have w2 : IntKind.wrap .i64 (bs.getD 0 0) = bs.getD 0 0 := i64 (by omega) (by omega)
  have k02 : Keep H.next H H2 := k1.trans (f2.keep k1.next hp1)
  unfold decL
  by_cases b1 : bs.length < 1
  · rw [if_pos b1]
    refine Post.bad k02 (call ⟨_, _, c1, _, _, c2, _, _, c3, ?_⟩)
    rw [if_pos (by simpa using b1)]
  rw [if_neg b1]
  by_cases b2 : bs.getD 0 0 > 4
  · rw [if_pos b2]
    refine Post.bad k02 (call ⟨_, _, c1, _, _, c2, _, _, c3, ?_⟩)
    rw [if_neg (by simpa using b1), w2, if_pos b2]
  rw [if_neg b2]
  have ez : (((bs.getD 0 0).toNat : Nat) : Int) = bs.getD 0 0 := by omega
  obtain ⟨l, a', k', H', z, hz⟩ := l0 (m := (bs.getD 0 0).toNat) hb hbl k02 hp1 r2.lt (by omega) (bs.getD 0 0).toNat 0 1 a2 [] none 0 H2 (by omega) rfl r2 (fun b hb => RM.alt r2 b hb) ⟨Chg.refl _, ⟨rfl, .inl ⟨rfl, rfl, rfl⟩⟩, by simp, by simp⟩
  refine ⟨l, a', k', H', call ⟨_, _, c1, _, _, c2, _, _, c3, ?_⟩, hz⟩
  rw [if_neg (by simpa using b1), w2, if_neg b2]
  rw [ez] at z
  exact z
end F23
end Go.X
