/- The law of bits: any bytes, any fields. -/
import Derived.Test.YtdnokmjobpbhhaaXzLc5
set_option linter.unusedVariables false
set_option linter.unusedSimpArgs false
set_option maxRecDepth 20000
namespace Go.X
open Go Go.RowKit Go.Proofs
def b01 (R : List Bool) : List Int := R.map fun b => if b then 1 else 0
theorem b01_len (R : List Bool) : (b01 R).length = R.length := by simp [b01]
theorem b01_drop (R : List Bool) (n : Nat) : (b01 R).drop n = b01 (R.drop n) := by simp [b01]
theorem b01_take (R : List Bool) (n : Nat) : (b01 R).take n = b01 (R.take n) := by simp [b01]
theorem unpack_text {xs : List Int} (hb : IsB xs) : unpack xs = textBits xs := by
  apply List.ext_getElem?
  intro i
  by_cases h : i < 8 * xs.length
  · have hx : xs[i / 8]? = some xs[i / 8] := List.getElem?_eq_getElem (by omega)
    have g := flat_get (f := fun c => bitsN (BitVec.ofInt 64 c) 8 |>.map fun b => Value.bool b) (z := 8) (fun c => by simp [seg_len]) hx (i % 8) (by omega)
    have e : (textBits xs).map (Value.bool ·) = xs.flatMap fun c => bitsN (BitVec.ofInt 64 c) 8 |>.map fun b => Value.bool b := by
      unfold textBits; rw [List.map_flatMap]
    rw [← e, show i / 8 * 8 + i % 8 = i by omega, List.getElem?_map, List.getElem?_map, seg_get _ (by omega)] at g
    rw [unpack_get _ h, List.getD, hx, Option.getD_some]
    have hc := hb.get hx
    obtain ⟨n, hn⟩ := Int.eq_ofNat_of_zero_le hc.1
    cases ht : (textBits xs)[i]? with
    | none => rw [ht] at g; cases g
    | some b =>
      rw [ht] at g
      simp only [Option.map_some, Option.some.injEq, Value.bool.injEq] at g
      rw [g, hn, BitVec.ofInt_natCast, BitVec.ofInt_natCast, BitVec.getLsbD_ofNat, BitVec.getLsbD_ofNat, decide_eq_true (show 7 - i % 8 < 8 by omega), decide_eq_true (show 8 - 1 - i % 8 < 64 by omega), show 8 - 1 - i % 8 = 7 - i % 8 by omega]
  · rw [List.getElem?_eq_none (by rw [unpack_len]; omega), List.getElem?_eq_none (by rw [textBits_len]; omega)]
/-- What taking bytes comes to. -/
def textS (R : List Bool) (e n : Int) : List Int × List Bool × Int := if n ≤ 0 ∨ e ≠ 0 then ([], R, e) else if (R.length : Int) < 8 * n then ([], [], 2) else (bytesOf R n.toNat, R.drop (8 * n.toNat), e)
def takeS (R : List Bool) (e w : Int) : Int × List Bool × Int := if w < 0 ∨ 64 < w ∨ e ≠ 0 then (0, R, e) else if (R.length : Int) < w then (0, [], 2) else (nb (valOf (R.take w.toNat)), R.drop w.toNat, e)
def evenS (R : List Bool) (e : Int) : List Bool × Int := if ∀ b ∈ R.take (R.length % 8), b = false then (R.drop (R.length % 8), e) else ([], 3)
section
variable {H : Heap} {p : Nat} {a : Option Addr} {R : List Bool} {e : Int}
theorem F31.all (h : RM H p a R e) (n : Int) : ∃ a2 a' k' H', Cc 31 [.pointer (some ⟨p, 0, Option.none⟩), .int .i64 n] H = some (.slice a' (textS R e n).1.length k', H') ∧ OwnI .u8 H.next H' a' (textS R e n).1.length k' (textS R e n).1 ∧ RM H' p a2 (textS R e n).2.1 (textS R e n).2.2 ∧ Fd p a a2 H H' := by
  unfold textS
  by_cases h0 : n ≤ 0 ∨ e ≠ 0
  · rw [if_pos h0]
    exact ⟨a, Option.none, 0, H, F31.none h h0, OwnI.nil, h, Fd.refl _⟩
  · rw [if_neg h0]
    have he : e = 0 := by omega
    subst he
    by_cases hs : (R.length : Int) < 8 * n
    · rw [if_pos hs]
      obtain ⟨H', c, r, f⟩ := F31.short h (by omega) hs
      exact ⟨Option.none, Option.none, 0, H', c, OwnI.nil, r, f⟩
    · rw [if_neg hs]
      obtain ⟨a', k', H', c, r, o, g⟩ := F31.text h (n := n.toNat) (by omega) (by omega)
      rw [Int.toNat_of_nonneg (by omega)] at c
      refine ⟨a, a', k', H', ?_, ?_, r, ⟨g, fun _ h => h⟩⟩
      · rw [bytesOf_len]; exact c
      · rw [bytesOf_len]; exact o
theorem F18.all (h : RM H p a R e) (w : Int) : ∃ a2 H', Cc 18 [.pointer (some ⟨p, 0, none⟩), .int .i64 w] H = some (.int .u64 (takeS R e w).1, H') ∧ RM H' p a2 (takeS R e w).2.1 (takeS R e w).2.2 ∧ Fd p a a2 H H' := by
  unfold takeS
  by_cases h0 : w < 0 ∨ 64 < w ∨ e ≠ 0
  · rw [if_pos h0]
    exact ⟨a, H, F18.bad h h0, h, Fd.refl _⟩
  · rw [if_neg h0]
    have he : e = 0 := by omega
    subst he
    obtain ⟨m, rfl⟩ := Int.eq_ofNat_of_zero_le (show 0 ≤ w by omega)
    by_cases hs : (R.length : Int) < (m : Int)
    · rw [if_pos hs]
      obtain ⟨H', c, r, f⟩ := F18.short h (w := m) (by omega) (by omega)
      exact ⟨none, H', c, r, f⟩
    · rw [if_neg hs]
      obtain ⟨H', c, r, f⟩ := F18.take h (w := m) (by omega) (by omega)
      exact ⟨a, H', c, r, f⟩
theorem F33.all (h : RM H p a R e) : ∃ a2 H', Cc 33 [.pointer (some ⟨p, 0, none⟩)] H = some (.tuple #[], H') ∧ RM H' p a2 (evenS R e).1 (evenS R e).2 ∧ Fd p a a2 H H' := by
  unfold evenS
  rcases F33.ok h with ⟨h1, H', c, r, f⟩ | ⟨⟨b, hb, hbt⟩, H', c, r, f⟩
  · rw [if_pos h1]; exact ⟨a, H', c, r, f⟩
  · rw [if_neg fun hh => by have := hh b hb; rw [hbt] at this; cases this]; exact ⟨none, H', c, r, f⟩
end
/-- The reference's row. -/
def RW (H : Heap) (p : Nat) (a : Option Addr) (R : List Bool) (e : Int) : Prop :=
  ∃ n k, H.get p = .row [.slice a n k, .int .i64 e] true ∧ p < H.next ∧ By H a n k (b01 R) ∧ ¬In1 a p ∧ R.length ≤ 1099511627776 ∧ (e ≠ 0 → R = [])
section
variable {H H2 : Heap} {p : Nat} {a : Option Addr} {R : List Bool} {e : Int} {S : Nat → Prop}
theorem RW.lt (h : RW H p a R e) : p < H.next := by obtain ⟨n, k, _, h, _⟩ := h; exact h
theorem RW.err (h : RW H p a R e) (he : e ≠ 0) : R = [] := by obtain ⟨n, k, _, _, _, _, _, h⟩ := h; exact h he
theorem RW.chg (h : RW H p a R e) (c : Chg S H H2) (hp : ¬S p) (ha : ∀ b, In1 a b → ¬S b) : RW H2 p a R e := by
  obtain ⟨n, k, h1, h2, h3, h4⟩ := h
  exact ⟨n, k, by rw [c.get p h2 hp]; exact h1, Nat.lt_of_lt_of_le h2 c.next, h3.chg c ha, h4⟩
theorem RW.new (h : RW H p a R e) (c : Keep H.next H H2) : RW H2 p a R e := h.chg (c.chg0 (S := fun _ => False)) (fun h => h) fun _ _ h => h
theorem F65.ok (h : RW H p a R e) (x : Int) : ∃ H', Cc 65 [.pointer (some ⟨p, 0, none⟩), .int .i64 x] H = some (.tuple #[], H') ∧ RW H' p none [] x ∧ Fd p a none H H' := by
  obtain ⟨n, k, h1, h2, h3, h4, h5, h6⟩ := h
  refine ⟨(H.set p (.row [.slice none 0 0, .int .i64 e] true)).set p (.row [.slice none 0 0, .int .i64 x] true), F65.call ⟨p, 0, rfl, _, rstc h1 (i := 0) (by simp) _, _, rstc (vs := [.slice none 0 0, .int .i64 e]) (by simp) (i := 1) (by simp) _, rfl⟩, ⟨0, 0, by simp, by simpa using h2, Ints.nil, In1.none, by simp, fun _ => rfl⟩, ⟨(chgSet _).trans (chgSet _) fun _ _ h => h, fun b hb => absurd hb In1.none⟩⟩
theorem RW.len (h : RW H p a R e) : ∃ k, H.get p = .row [.slice a R.length k, .int .i64 e] true ∧ By H a R.length k (b01 R) := by
  obtain ⟨n, k, h1, h2, h3, h4⟩ := h
  have := h3.ln
  rw [b01_len] at this
  subst this
  exact ⟨k, h1, h3⟩
end
theorem psl_in1 {z n k : Nat} {a : Option Addr} {lo hi : Option Int} {a' : Option Addr} {n' k' : Nat} (h : psl z a n k lo hi none = some (a', n', k')) : ∀ b, In1 a' b → In1 a b := by
  intro b hb
  unfold psl at h
  obtain ⟨v, hv, hs⟩ := Option.bind_eq_some_iff.1 h
  unfold xslice at hv
  match a with
  | none =>
    simp only at hv
    split at hv
    · unfold xsliceNo at hv
      split at hv
      · split at hv
        · cases hv; cases hs; exact absurd hb In1.none
        · cases hv
      · cases hv
    · cases hv
  | some ⟨c, o, s⟩ =>
    simp only at hv
    cases s with
    | none =>
      simp only [xsliceAt, Option.map_none] at hv
      split at hv
      · split at hv
        · split at hv
          · cases hv; cases hs; obtain ⟨_, e⟩ := hb; cases e; exact ⟨_, rfl⟩
          · split at hv
            · split at hv
              · cases hv
              · cases hv; cases hs; obtain ⟨_, e⟩ := hb; cases e; exact ⟨_, rfl⟩
            · cases hv; cases hs; exact absurd hb In1.spot
        · cases hv
      · cases hv
    | some s =>
      simp only at hv
      split at hv
      · unfold xsliceNo at hv
        split at hv
        · split at hv
          · cases hv; cases hs; exact hb
          · cases hv
        · cases hv
      · cases hv
namespace F35
variable {H : Heap} {p : Nat} {a : Option Addr} {R : List Bool} {e : Int}
theorem l1 {w : Nat} (hw : w ≤ 64) {a5 : Option Addr} {k5 : Nat} {M : List Bool} (hM : M.length = w) (hs : By H a5 w k5 (b01 M)) {r : Value × Heap} (fin : ∃ (t51a : Option Addr) (t51n : Nat) (t51k : Nat), ldc H p 0 = some (.slice t51a t51n t51k) ∧ ∃ (t53a : Option Addr) (t53n : Nat) (t53k : Nat), psl 1 t51a t51n t51k (some (w : Int)) none none = some (t53a, t53n, t53k) ∧ ∃ (H_1 : Heap), stc H p 0 [.slice t53a t53n t53k] = some H_1 ∧ r = (.int .u64 (nb (valOf M)), H_1)) :
    ∀ (d j : Nat), j + d = w → L1 p 0 (w : Int) (nb (valOf (M.take j))) a5 w k5 (w : Int) (j : Int) H r := by
  intro d
  induction d with
  | zero =>
    intro j hj
    refine L1_step ?_
    rw [if_neg (by omega), List.take_of_length_le (by omega)]
    simpa using fin
  | succ d ih =>
    intro j hj
    obtain ⟨b, o, rfl⟩ := hs.at (by omega)
    have hx : M[j]? = some M[j] := List.getElem?_eq_getElem (by omega)
    have hy : (b01 M)[j]? = some (if M[j] then 1 else 0) := by unfold b01; rw [List.getElem?_map, hx]; rfl
    refine L1_step ?_
    rw [if_pos (by omega)]
    refine ⟨b, o, rfl, by omega, by omega, _, Ints.get hs hy, ?_⟩
    have e1 : IntKind.wrap .u64 (if M[j] = true then 1 else 0) = (if M[j] = true then 1 else 0) := by split <;> rfl
    have e2 : valOf (M.take (j + 1)) = (valOf (M.take j) <<< 1) ||| (BitVec.ofBool M[j]).setWidth 64 := by rw [List.take_add_one, hx, Option.toList_some, valOf_concat]
    rw [e1, val_step, ← e2, i64 (by omega) (by omega)]
    exact_mod_cast ih (j + 1) (by omega)
theorem all (h : RW H p a R e) (w : Int) : ∃ a2 H', Cc 35 [.pointer (some ⟨p, 0, none⟩), .int .i64 w] H = some (.int .u64 (takeS R e w).1, H') ∧ RW H' p a2 (takeS R e w).2.1 (takeS R e w).2.2 ∧ Fd p a a2 H H' := by
  obtain ⟨k, row, hs⟩ := h.len
  unfold takeS
  by_cases h0 : w < 0 ∨ 64 < w ∨ e ≠ 0
  · rw [if_pos h0]
    refine ⟨a, H, call ?_, h, Fd.refl _⟩
    by_cases h1 : w < 0
    · rw [if_pos h1]; exact L0_step (by rw [if_pos rfl])
    · rw [if_neg h1]
      by_cases h2 : w > 64
      · rw [if_pos h2]; exact L0_step (by rw [if_pos rfl])
      · rw [if_neg h2]
        refine ⟨p, 0, rfl, _, rldc row 1, L0_step ?_⟩
        rw [if_pos (by simp; omega)]
  · rw [if_neg h0]
    have he : e = 0 := by omega
    subst he
    obtain ⟨m, rfl⟩ := Int.eq_ofNat_of_zero_le (show 0 ≤ w by omega)
    by_cases hsh : (R.length : Int) < (m : Int)
    · rw [if_pos hsh]
      obtain ⟨H', c, r, f⟩ := F65.ok h 2
      refine ⟨none, H', call ?_, r, f⟩
      rw [if_neg (by omega), if_neg (by omega)]
      refine ⟨p, 0, rfl, _, rldc row 1, L0_step ?_⟩
      rw [if_neg (by simp)]
      refine ⟨p, 0, rfl, _, _, _, rldc row 0, ?_⟩
      rw [if_pos (by omega)]
      exact ⟨_, c, rfl⟩
    · rw [if_neg hsh]
      obtain ⟨a1, k1, c1, s1⟩ := Ints.part hs none (some (m : Int)) 0 m (.inl ⟨rfl, rfl⟩) (.inr rfl) (Nat.zero_le _) (by omega)
      obtain ⟨a2, k2, c2, s2⟩ := Ints.part hs (some (m : Int)) none m R.length (.inr rfl) (.inl ⟨rfl, rfl⟩) (by omega) (Nat.le_refl _)
      rw [List.drop_zero, Nat.sub_zero, b01_take] at s1
      rw [Nat.sub_zero] at c1
      rw [b01_drop, List.take_of_length_le (by rw [b01_len]; simp)] at s2
      have hlt := h.lt
      obtain ⟨n', k', row', _, _, hap, hsm, _⟩ := h
      have ha2 : ∀ b, In1 a2 b → In1 a b := psl_in1 c2
      refine ⟨a2, H.set p (.row [.slice a2 (R.length - m) k2, .int .i64 0] true), call ?_, ⟨R.length - m, k2, by simp, by simpa using hlt, s2.chg (chgSet _) fun b hb e => hap (ha2 p ((show b = p from e) ▸ hb)), fun hb => hap (ha2 p hb), by simp; omega, fun h => absurd rfl h⟩, ⟨chgSet _, ha2⟩⟩
      rw [if_neg (by omega), if_neg (by omega)]
      refine ⟨p, 0, rfl, _, rldc row 1, L0_step ?_⟩
      rw [if_neg (by simp)]
      refine ⟨p, 0, rfl, _, _, _, rldc row 0, ?_⟩
      rw [if_neg (by omega)]
      refine ⟨_, _, _, rldc row 0, _, _, _, c1, ?_⟩
      exact l1 (by omega) (M := R.take m) (by simp; omega) s1 ⟨_, _, _, rldc row 0, _, _, _, c2, _, rstc row (i := 0) (by simp) _, rfl⟩ m 0 (by omega)
end F35
namespace F32
variable {H : Heap} {p : Nat} {a : Option Addr} {R : List Bool} {e : Int}
theorem l1 {G : Heap} {n : Nat} (hn : n ≤ 1099511627776) (hR : 8 * n ≤ R.length) (hp : p < G.next) : ∀ (d j : Nat) (H : Heap) (a a5 : Option Addr) (k5 : Nat), j + d = n → RW H p a (R.drop (8 * j)) 0 → (∀ b, In1 a b → b < G.next) → Chg (fun b => b = p) G H → OwnI .u8 G.next H a5 j k5 (bytesOf R j) →
    ∃ a2 a' k' H', L1 p 0 a5 j k5 (n : Int) (j : Int) H (.slice a' n k', H') ∧ RW H' p a2 (R.drop (8 * n)) 0 ∧ (∀ b, In1 a2 b → In1 a b) ∧ OwnI .u8 G.next H' a' n k' (bytesOf R n) ∧ Chg (fun b => b = p) G H' := by
  intro d
  induction d with
  | zero =>
    intro j H a a5 k5 hj h ha g o
    have e : j = n := by omega
    subst e
    refine ⟨a, a5, k5, H, L1_step ?_, h, fun _ h => h, o, g⟩
    rw [if_neg (by omega)]
  | succ d ih =>
    intro j H a a5 k5 hj h ha g o
    obtain ⟨a1, H1, c1, r1, f1⟩ := F35.all h 8
    have hl : ¬(((R.drop (8 * j)).length : Int) < 8) := by simp; omega
    have et : takeS (R.drop (8 * j)) 0 8 = (nb (valOf ((R.drop (8 * j)).take 8)), (R.drop (8 * j)).drop 8, 0) := by
      unfold takeS; rw [if_neg (by omega), if_neg hl]; rfl
    rw [et] at c1 r1
    simp only at c1 r1
    rw [List.drop_drop, show 8 * j + 8 = 8 * (j + 1) by omega] at r1
    have o1 : OwnI .u8 G.next H1 a5 j k5 (bytesOf R j) := o.chg f1.chg fun b hb e => by have := (o.lt hb).1; have e : b = p := e; omega
    have k2 : Keep H1.next H1 (H1.push (.row [.int .u8 (IntKind.wrap .u8 (nb (valOf ((R.drop (8 * j)).take 8))))] true)) := Keep.push _ (Nat.le_refl _)
    have on := (OwnI.new (K := .u8) H1 [IntKind.wrap .u8 (nb (valOf ((R.drop (8 * j)).take 8)))]).sl
    have gn : G.next ≤ H1.next := Nat.le_trans g.next f1.chg.next
    have o2 := o1.keep k2
    obtain ⟨a3, k3, H3, c3, o3, g3⟩ := OwnI.app (K := .u8) 1 o2 on (by simp; omega) (by simp; omega) (by simp; omega)
    have ha1 : ∀ b, In1 a1 b → b < G.next := fun b hb => ha b (f1.arr b hb)
    have r3 : RW H3 p a1 (R.drop (8 * (j + 1))) 0 := (r1.new k2).chg g3.chg (by omega) fun b hb => by have := ha1 b hb; omega
    rw [← bytesOf_succ] at o3
    have kk : Keep G.next H1 H3 := (k2.weak gn).trans g3
    obtain ⟨a2, a', k', H', z, r, fa, o', g'⟩ := ih (j + 1) H3 a1 a3 k3 (by omega) r3 ha1 ((g.trans f1.chg fun _ _ h => h).trans kk.chg fun b hb h => by have h : G.next ≤ b := h; omega) o3
    refine ⟨a2, a', k', H', L1_step ?_, r, fun b hb => f1.arr b (fa b hb), o', g'⟩
    rw [if_pos (by omega)]
    refine ⟨_, _, c1, _, rfl, _, _, _, _, c3, ?_⟩
    rw [i64 (by omega) (by omega)]
    exact_mod_cast z
theorem all (h : RW H p a R e) (n : Int) : ∃ a2 a' k' H', Cc 32 [.pointer (some ⟨p, 0, none⟩), .int .i64 n] H = some (.slice a' (textS R e n).1.length k', H') ∧ OwnI .u8 H.next H' a' (textS R e n).1.length k' (textS R e n).1 ∧ RW H' p a2 (textS R e n).2.1 (textS R e n).2.2 ∧ Fd p a a2 H H' := by
  obtain ⟨k, row, hs⟩ := h.len
  have hsm : R.length ≤ 1099511627776 := by obtain ⟨_, _, _, _, _, _, h, _⟩ := h; exact h
  unfold textS
  by_cases h0 : n ≤ 0 ∨ e ≠ 0
  · rw [if_pos h0]
    refine ⟨a, none, 0, H, call ?_, OwnI.nil, h, Fd.refl _⟩
    by_cases h1 : n ≤ 0
    · rw [if_pos h1]; exact L0_step (by rw [if_pos rfl]; rfl)
    · rw [if_neg h1]
      refine ⟨p, 0, rfl, _, rldc row 1, L0_step ?_⟩
      rw [if_pos (by simp; omega)]
      rfl
  · rw [if_neg h0]
    have he : e = 0 := by omega
    subst he
    have e1 : IntKind.wrap .i64 (Int.tdiv (R.length : Int) 8) = ((R.length / 8 : Nat) : Int) := by rw [Int.tdiv_eq_ediv_of_nonneg (by omega), i64 (by omega) (by omega)]; omega
    by_cases hsh : (R.length : Int) < 8 * n
    · rw [if_pos hsh]
      obtain ⟨H', c, r, f⟩ := F65.ok h 2
      refine ⟨none, none, 0, H', call ?_, OwnI.nil, r, f⟩
      rw [if_neg (by omega)]
      refine ⟨p, 0, rfl, _, rldc row 1, L0_step ?_⟩
      rw [if_neg (by simp)]
      refine ⟨p, 0, rfl, _, _, _, rldc row 0, ?_⟩
      rw [e1, if_pos (by omega)]
      exact ⟨_, c, rfl⟩
    · rw [if_neg hsh]
      obtain ⟨m, rfl⟩ := Int.eq_ofNat_of_zero_le (show 0 ≤ n by omega)
      obtain ⟨a2, a', k', H', z, r, fa, o, g⟩ := l1 (G := H) (R := R) (n := m) (by omega) (by omega) h.lt m 0 H a none 0 (by omega) (by simpa using h) (fun b hb => hs.lt hb) (Chg.refl _) OwnI.nil
      rw [Int.toNat_natCast]
      refine ⟨a2, a', k', H', call ?_, by rw [bytesOf_len]; exact o, r, ⟨g, fa⟩⟩
      rw [if_neg (by omega)]
      refine ⟨p, 0, rfl, _, rldc row 1, L0_step ?_⟩
      rw [if_neg (by simp)]
      refine ⟨p, 0, rfl, _, _, _, rldc row 0, ?_⟩
      rw [e1, if_neg (by omega), bytesOf_len]
      exact z
end F32
namespace F34
variable {p : Nat}
theorem l0 : ∀ (d : Nat) (H : Heap) (a : Option Addr) (R : List Bool) (e : Int), R.length % 8 = d → RW H p a R e →
    ∃ a2 H', L0 (some ⟨p, 0, none⟩) H (.tuple #[], H') ∧ RW H' p a2 (evenS R e).1 (evenS R e).2 ∧ Fd p a a2 H H' := by
  intro d
  induction d with
  | zero =>
    intro H a R e hd h
    obtain ⟨k, row, hs⟩ := h.len
    have hev : evenS R e = (R, e) := by unfold evenS; rw [hd]; simp
    rw [hev]
    refine ⟨a, H, L0_step ⟨p, 0, rfl, _, _, _, rldc row 0, ?_⟩, h, Fd.refl _⟩
    rw [if_pos (by rw [tmod8]; omega)]
  | succ d ih =>
    intro H a R e hd h
    cases R with
    | nil => simp at hd
    | cons b R =>
      have he : e = 0 := Classical.byContradiction fun he => by have := h.err he; cases this
      subst he
      obtain ⟨k, row, hs⟩ := h.len
      obtain ⟨a1, H1, c1, r1, f1⟩ := F35.all h 1
      simp only [List.length_cons] at hd
      have et : takeS (b :: R) 0 1 = (nb (valOf [b]), R, 0) := by
        unfold takeS
        rw [if_neg (by omega), if_neg (by simp only [List.length_cons]; omega)]
        rfl
      rw [et] at c1 r1
      simp only at c1 r1
      have ev : nb (valOf [b]) = if b then 1 else 0 := by cases b <;> rfl
      rw [ev] at c1
      cases b with
      | true =>
        obtain ⟨H2, c2, r2, f2⟩ := F65.ok r1 3
        have hev : evenS (true :: R) 0 = ([], 3) := by
          unfold evenS
          rw [if_neg fun hh => by have := hh true (by rw [List.length_cons, hd]; simp); cases this]
        rw [hev]
        refine ⟨none, H2, L0_step ⟨p, 0, rfl, _, _, _, rldc row 0, ?_⟩, r2, f1.trans f2⟩
        rw [if_neg (by rw [tmod8, List.length_cons]; omega)]
        refine ⟨_, _, c1, ?_⟩
        rw [if_neg (by simp)]
        exact ⟨_, c2, rfl⟩
      | false =>
        obtain ⟨a2, H2, z, r2, f2⟩ := ih H1 a1 R 0 (by omega) r1
        have hev : evenS (false :: R) 0 = evenS R 0 := by
          unfold evenS
          rw [List.length_cons, hd, show R.length % 8 = d by omega, List.take_succ_cons, List.drop_succ_cons]
          simp
        rw [hev]
        refine ⟨a2, H2, L0_step ⟨p, 0, rfl, _, _, _, rldc row 0, ?_⟩, r2, f1.trans f2⟩
        rw [if_neg (by rw [tmod8, List.length_cons]; omega)]
        refine ⟨_, _, c1, ?_⟩
        rw [if_pos (by simp)]
        exact z
theorem all {H : Heap} {a : Option Addr} {R : List Bool} {e : Int} (h : RW H p a R e) : ∃ a2 H', Cc 34 [.pointer (some ⟨p, 0, none⟩)] H = some (.tuple #[], H') ∧ RW H' p a2 (evenS R e).1 (evenS R e).2 ∧ Fd p a a2 H H' := by
  obtain ⟨a2, H', z, r⟩ := l0 _ H a R e rfl h
  exact ⟨a2, H', call z, r⟩
end F34
namespace F38
theorem ok {H : Heap} {p : Nat} {a : Option Addr} {R : List Bool} {e : Int} (h : RW H p a R e) : Cc 38 [.pointer (some ⟨p, 0, none⟩)] H = some (.int .i64 (if e = 0 ∧ R ≠ [] then 3 else e), H) := by
  obtain ⟨k, row, hs⟩ := h.len
  refine call ⟨p, 0, rfl, _, rldc row 1, ?_⟩
  by_cases he : e = 0
  · rw [if_pos he]
    refine ⟨_, _, _, rldc row 0, L0_step ?_⟩
    by_cases hR : R = []
    · subst hR
      rw [if_neg (by simp), if_neg (by simp)]
      exact ⟨_, rldc row 1, rfl⟩
    · have := List.length_pos_iff.2 hR
      rw [if_pos (by simp; omega), if_pos ⟨he, hR⟩]
  · rw [if_neg he, if_neg (fun h => he h.1)]
    refine L0_step ?_
    rw [if_neg (by simp)]
    exact ⟨_, rldc row 1, rfl⟩
end F38
/-- The reference's row, as it is put together. -/
structure OW (H : Heap) (p : Nat) (L : List Bool) (a : Option Addr) (n k : Nat) : Prop where
  row : H.get p = .row [.slice a n k, .int .i64 0] true
  lt : p < H.next
  own : OwnI .u8 0 H a n k (b01 L)
  apart : ¬In1 a p
theorem bit64 (v : BitVec 64) {s : Nat} (hs : s ≤ 64) : IntKind.wrap .u8 (iand .u64 (ishr .u64 (nb v) (s : Int)) 1) = if v.getLsbD s then 1 else 0 := by
  have e1 : ishr .u64 (nb v) (s : Int) = nb (v >>> s) := ishr_nb (k := .u64) v s (show s ≤ 64 from hs)
  have e2 : iand .u64 (nb (v >>> s)) (nb 1#64) = nb (v >>> s &&& 1#64) := iand_nb (k := .u64) rfl _ _
  have e3 : v >>> s &&& 1#64 = if v.getLsbD s then 1#64 else 0#64 := by
    apply BitVec.eq_of_getLsbD_eq
    intro i hi
    rw [BitVec.getLsbD_and, BitVec.getLsbD_ushiftRight]
    by_cases h0 : i = 0
    · subst h0
      cases hv : v.getLsbD s <;> simp [hv]
    · have : (1#64).getLsbD i = false := by rw [BitVec.getLsbD_one]; simp [h0]
      rw [this]
      split
      · rw [this]; simp
      · simp
  rw [e1, show (1 : Int) = nb 1#64 from rfl, e2, e3]
  split <;> rfl
namespace F77
variable {p : Nat}
theorem l0 {v : BitVec 64} : ∀ (m : Nat) (L : List Bool) (a : Option Addr) (n k : Nat) (H : Heap), m ≤ 64 → OW H p L a n k → L.length + m ≤ 1099511627776 →
    ∃ a' n' k' H', L0 (some ⟨p, 0, none⟩) (nb v) 8 ((m : Int) - 1) H (.tuple #[], H') ∧ OW H' p (L ++ seg v m m) a' n' k' ∧ Ft p a a' H H' := by
  intro m
  induction m with
  | zero =>
    intro L a n k H _ h _
    refine ⟨a, n, k, H, L0_step ?_, by simpa [seg] using h, Ft.refl _⟩
    rw [if_pos (by decide)]
    refine L1_step ?_
    rw [if_neg (by simp)]
  | succ m ih =>
    intro L a n k H h64 h hL
    have hl := h.own.ln
    rw [b01_len] at hl
    have e1 : (((m + 1 : Nat) : Int) - 1) = (m : Int) := by omega
    have on := OwnI.new (K := .u8) H [if v.getLsbD m then 1 else 0]
    have k1 : Keep H.next H (H.push (.row (List.map (Value.int .u8) [if v.getLsbD m then 1 else 0]) true)) := Keep.push _ (Nat.le_refl _)
    obtain ⟨a2, k2, H2, c2, o2, g2, f2⟩ := Own.append' (by_ := 1) (h.own.keep k1) on.sl (by decide) (Nat.zero_le _) (by simp; omega) (by simp; omega)
    have hlt1 : p < (H.push (.row (List.map (Value.int .u8) [if v.getLsbD m then 1 else 0]) true)).next := Nat.lt_of_lt_of_le h.lt k1.next
    have hp2 : H2.get p = .row [.slice a n k, .int .i64 0] true := by rw [g2.get p hlt1 h.apart, k1.get p h.lt]; exact h.row
    have g3 : Chg (fun c => c = p) H2 (H2.set p (.row [.slice a2 (n + 1) k2, .int .i64 0] true)) := chgSet _
    have fa : ∀ b, In1 a2 b → In1 a b ∨ H.next ≤ b := fun b hb => by
      rcases f2 b hb with e | e
      · exact .inl e
      · simp at e; exact .inr (by omega)
    have ap2 : ¬In1 a2 p := fun hb => by
      rcases fa p hb with e | e
      · exact h.apart e
      · have := h.lt; omega
    have eb : b01 (L ++ [v.getLsbD m]) = b01 L ++ [if v.getLsbD m then 1 else 0] := by unfold b01; rw [List.map_append]; rfl
    have w2 : OW (H2.set p (.row [.slice a2 (n + 1) k2, .int .i64 0] true)) p (L ++ [v.getLsbD m]) a2 (n + 1) k2 := by
      refine ⟨by simp, Nat.lt_of_lt_of_le hlt1 (Nat.le_trans g2.next g3.next), ?_, ap2⟩
      rw [eb, OwnI, List.map_append]
      exact o2.chg g3 fun c hc e => ap2 ((show c = p from e) ▸ hc)
    obtain ⟨a', n', k', H', z, w, f⟩ := ih (L ++ [v.getLsbD m]) a2 (n + 1) k2 _ (by omega) w2 (by simp; omega)
    have es : L ++ [v.getLsbD m] ++ seg v m m = L ++ seg v (m + 1) (m + 1) := by
      rw [List.append_assoc]
      congr 1
      have := seg_app v (left := m + 1) (k := 1) (w := m + 1) (by omega) (Nat.le_refl _) (by omega)
      rw [← this]
      rfl
    rw [es] at w
    refine ⟨a', n', k', H', L0_step ?_, w, Ft.trans ⟨(k1.chg0 (S := fun b => b = p ∨ In1 a b)).trans ((g2.weak (T := fun b => b = p ∨ In1 a b) fun b _ h => .inr h).trans g3 fun b _ h => .inl h) fun _ _ h => h, fa⟩ f⟩
    rw [if_pos (by decide), e1, decide_eq_true (by omega)]
    refine L1_step ?_
    rw [if_pos rfl, u64n m (by omega), bit64 v (by omega), i64 (by omega) (by omega)]
    exact ⟨p, 0, rfl, _, _, _, rldc h.row 0, by omega, _, rfl, _, _, _, _, c2, _, rstc hp2 (i := 0) (by simp) _, z⟩
end F77
namespace F63
variable {p : Nat} {G : Heap}
theorem l0 {a6 : Option Addr} {n6 k6 : Nat} {xs : List Int} (hs : By G a6 n6 k6 xs) (hn6 : n6 ≤ 1099511627776) : ∀ (rest : List Int) (j : Nat) (L : List Bool) (a : Option Addr) (n k : Nat) (H : Heap), xs.drop j = rest → j + rest.length = n6 → OW H p L a n k → L.length + 8 * rest.length ≤ 1099511627776 → Keep G.next G H → G.next ≤ p → (∀ b, In1 a b → G.next ≤ b) →
    ∃ a' n' k' H', L0 (some ⟨p, 0, none⟩) a6 n6 k6 (n6 : Int) (j : Int) H (.tuple #[], H') ∧ OW H' p (L ++ textBits rest) a' n' k' ∧ Ft p a a' H H' := by
  intro rest
  induction rest with
  | nil =>
    intro j L a n k H hd hj h hL hk hp ha
    simp only [List.length_nil] at hj
    refine ⟨a, n, k, H, L0_step ?_, by simpa [textBits] using h, Ft.refl _⟩
    rw [if_neg (by omega)]
  | cons x rest ih =>
    intro j L a n k H hd hj h hL hk hp ha
    simp only [List.length_cons] at hj hL
    have hx := drop_get hd
    obtain ⟨b, o, rfl⟩ := hs.at (by omega)
    have ex : IntKind.wrap .u64 x = nb (BitVec.ofInt 64 x) := wrap_nb (k := .u64) rfl x
    obtain ⟨a1, n1, k1, H1, c1, w1, f1⟩ := F77.l0 (v := BitVec.ofInt 64 x) 8 L a n k H (by omega) h (by omega)
    have hk1 := hk.trans (f1.keep hk.next hp ha)
    obtain ⟨a', n', k', H', z, w, f⟩ := ih (j + 1) _ a1 n1 k1 H1 (drop_next hd) (by omega) w1 (by rw [List.length_append, seg_len]; omega) hk1 hp (fun b hb => by
      rcases f1.arr b hb with e | e
      · exact ha b e
      · have := hk.next; omega)
    refine ⟨a', n', k', H', L0_step ?_, by rw [List.append_assoc] at w; exact w, f1.trans f⟩
    rw [if_pos (by omega)]
    refine ⟨b, o, rfl, by omega, by omega, _, Ints.get (hs.keep hk) hx, ?_⟩
    rw [ex, i64 (by omega) (by omega)]
    refine ⟨_, F77.call ?_, by exact_mod_cast z⟩
    rw [show IntKind.wrap .i64 (8 - 1) = ((8 : Nat) : Int) - 1 from rfl]
    exact c1
end F63
namespace F30
theorem ok {H : Heap} {a : Option Addr} {n k : Nat} {xs : List Int} (hs : By H a n k xs) (hn : n ≤ 1000000) : ∃ p a' H', Cc 30 [.slice a n k] H = some (.pointer (some ⟨p, 0, none⟩), H') ∧ RW H' p a' (textBits xs) 0 ∧ H.next ≤ p ∧ (∀ b, In1 a' b → H.next ≤ b) ∧ Keep H.next H H' := by
  have hl := hs.ln
  have w0 : OW (H.push (.row [.slice none 0 0, .int .i64 0] true)) H.next [] none 0 0 := ⟨by simp, by simp, OwnI.nil, In1.none⟩
  have k1 : Keep H.next H (H.push (.row [.slice none 0 0, .int .i64 0] true)) := Keep.push _ (Nat.le_refl _)
  obtain ⟨a', n', k', H', z, w, f⟩ := F63.l0 (p := H.next) hs (by omega) xs 0 [] none 0 0 _ rfl (by omega) w0 (by simp; omega) k1 (Nat.le_refl _) fun b hb => absurd hb In1.none
  refine ⟨H.next, a', H', call ⟨_, rfl, _, F63.call z, rfl⟩, ⟨n', k', w.row, w.lt, w.own.sl, w.apart, by simp [textBits_len]; omega, fun h => absurd rfl h⟩, Nat.le_refl _, fun b hb => ?_, k1.trans (f.keep k1.next (Nat.le_refl _) fun b hb => absurd hb In1.none)⟩
  rcases f.arr b hb with e | e
  · exact absurd e In1.none
  · have := k1.next; omega
end F30
namespace F7
variable {G : Heap} {a0 : Option Addr} {n0 k0 : Nat} {fs : List Fld} {q q2 : Nat}
/-- Behind each step. -/
theorem l2 {H : Heap} {b o j : Nat} {a a2 : Option Addr} {R : List Bool} {e : Int} (r : RM H q a R e) (w : RW H q2 a2 R e) (hn : n0 ≤ 140737488355328) (hj : j < n0) {r' : Value × Heap} (fin : L1 (some ⟨q, 0, none⟩) (some ⟨q2, 0, none⟩) (some ⟨b, o, none⟩) n0 k0 (n0 : Int) ((j + 1 : Nat) : Int) H r') :
    L2 (some ⟨q, 0, none⟩) (some ⟨q2, 0, none⟩) true b o n0 k0 (n0 : Int) (j : Int) H r' := by
  obtain ⟨k, row, hs⟩ := w.len
  refine L2_step ?_
  rw [if_pos rfl]
  refine ⟨_, _, F36.ok r, q2, 0, rfl, _, _, _, rldc row 0, ?_⟩
  rw [if_pos rfl]
  refine ⟨_, _, F37.ok r, _, _, F38.ok w, rldc row 0, L3_step ?_⟩
  rw [if_neg (by simp), i64 (by omega) (by omega)]
  exact_mod_cast fin
theorem l1 (hs : Sl G 5 a0 n0 k0 (fs.flatMap Fld.cells)) (hf : ∀ f ∈ fs, FldOk G f) (hn : n0 ≤ 140737488355328) (hq : G.next ≤ q) (hq2 : G.next ≤ q2) (hne : q ≠ q2) : ∀ (d j : Nat) (H : Heap) (a a2 : Option Addr) (R : List Bool) (e : Int), j + d = n0 → Keep G.next G H → RM H q a R e → RW H q2 a2 R e → ¬In1 a q2 → ¬In1 a2 q →
    ∃ H', L1 (some ⟨q, 0, none⟩) (some ⟨q2, 0, none⟩) a0 n0 k0 (n0 : Int) (j : Int) H (.bool true, H') := by
  have hl := hs.cnt Fld.z (by decide)
  intro d
  induction d with
  | zero =>
    intro j H a a2 R e hj hk r w _ _
    obtain ⟨H', c, _⟩ := F19.ok H
    refine ⟨H', L1_step ?_⟩
    rw [if_neg (by omega)]
    exact ⟨_, _, c, rfl⟩
  | succ d ih =>
    intro j H a a2 R e hj hk r w haq ha2
    have hx : fs[j]? = some fs[j] := List.getElem?_eq_getElem (by omega)
    generalize fs[j] = f at hx
    obtain ⟨b, o, rfl⟩ := hs.at (by omega)
    have ra := (hs.keep hk).recs Fld.z hx
    obtain ⟨H2, s1, s2, s3, s4⟩ := scratch5 (H := H) (x0 := .int .u64 0) (x1 := .int .i64 0) (x2 := .bool false) (x3 := .bool false) (x4 := .slice none 0 0) (y0 := .int .u64 f.v) (y1 := .int .i64 f.w) (y2 := .bool f.texts) (y3 := .bool f.evens) (y4 := .slice f.a f.n f.k)
    have r2 := r.new s3
    have w2 := w.new s3
    have hk2 := hk.trans (s3.weak hk.next)
    have lq := r.lt
    have lq2 := w.lt
    -- both have done one thing
    have nx : ∀ (H3 H4 : Heap) (a3 a4 : Option Addr) (R' : List Bool) (e' : Int), RM H3 q a3 R' e' → Fd q a a3 H2 H3 → RW H4 q2 a4 R' e' → Fd q2 a2 a4 H3 H4 → ∃ H', L2 (some ⟨q, 0, none⟩) (some ⟨q2, 0, none⟩) true b o n0 k0 (n0 : Int) (j : Int) H4 (.bool true, H') := by
      intro H3 H4 a3 a4 R' e' r3 f3 w4 f4
      have h3 : ¬In1 a3 q2 := fun h => haq (f3.arr _ h)
      have r4 : RM H4 q a3 R' e' := r3.chg f4.chg (fun h => hne h) fun b hb h => h3 ((show b = q2 from h) ▸ hb)
      have k3 := hk2.trans (f3.keep hk2.next hq)
      have k4 := k3.trans (f4.keep k3.next hq2)
      obtain ⟨H', z⟩ := ih (j + 1) H4 a3 a4 R' e' (by omega) k4 r4 w4 h3 fun h => ha2 (f4.arr _ h)
      exact ⟨H', l2 r4 w4 hn (by omega) z⟩
    have wf : ∀ {a3 : Option Addr} {H3 : Heap}, Fd q a a3 H2 H3 → RW H3 q2 a2 R e := fun f3 => w2.chg f3.chg (fun h => hne h.symm) fun b hb h => ha2 ((show b = q from h) ▸ hb)
    by_cases ht : f.texts = true
    · obtain ⟨a3, a5, k5, H3, c3, o3, r3, f3⟩ := F31.all r2 f.w
      obtain ⟨a4, a6, k6, H4, c4, o4, w4, f4⟩ := F32.all (wf f3) f.w
      obtain ⟨H', z⟩ := nx H3 H4 a3 a4 _ _ r3 f3 w4 f4
      have o5 := o3.sl.chg f4.chg fun b hb h => by have := (o3.lt hb).1; have h : b = q2 := h; omega
      refine ⟨H', L1_step ?_⟩
      rw [if_pos (by omega)]
      refine ⟨b, o, rfl, by omega, by omega, _, _, _, _, _, _, _, ra, _, rfl, H2, s1, _, rldc s2 2, ?_⟩
      rw [if_pos ht]
      refine ⟨_, rldc s2 1, _, _, _, _, c3, _, o3.sl.str, _, _, _, _, c4, _, o4.sl.str, Sl.str o5, ?_⟩
      rw [beq_self_eq_true]
      exact z
    · by_cases hv : f.evens = true
      · obtain ⟨a3, H3, c3, r3, f3⟩ := F33.all r2
        obtain ⟨a4, H4, c4, w4, f4⟩ := F34.all (wf f3)
        obtain ⟨H', z⟩ := nx H3 H4 a3 a4 _ _ r3 f3 w4 f4
        refine ⟨H', L1_step ?_⟩
        rw [if_pos (by omega)]
        refine ⟨b, o, rfl, by omega, by omega, _, _, _, _, _, _, _, ra, _, rfl, H2, s1, _, rldc s2 2, ?_⟩
        rw [if_neg ht]
        refine ⟨_, rldc s2 3, ?_⟩
        rw [if_pos hv]
        exact ⟨_, c3, _, c4, z⟩
      · obtain ⟨a3, H3, c3, r3, f3⟩ := F18.all r2 f.w
        obtain ⟨a4, H4, c4, w4, f4⟩ := F35.all (wf f3) f.w
        obtain ⟨H', z⟩ := nx H3 H4 a3 a4 _ _ r3 f3 w4 f4
        have g : H3.get H.next = .row [.int .u64 f.v, .int .i64 f.w, .bool f.texts, .bool f.evens, .slice f.a f.n f.k] true := by rw [f3.chg.get _ (by omega) fun h => by have h : H.next = q := h; omega]; exact s2
        refine ⟨H', L1_step ?_⟩
        rw [if_pos (by omega)]
        refine ⟨b, o, rfl, by omega, by omega, _, _, _, _, _, _, _, ra, _, rfl, H2, s1, _, rldc s2 2, ?_⟩
        rw [if_neg ht]
        refine ⟨_, rldc s2 3, ?_⟩
        rw [if_neg hv]
        refine ⟨_, rldc s2 1, _, _, c3, _, rldc s2 1, _, _, c4, rldc g 1, ?_⟩
        rw [beq_self_eq_true]
        exact z
theorem ok {H : Heap} {a1 : Option Addr} {n1 k1 : Nat} {xs : List Int} (h1 : By H a1 n1 k1 xs) (hb : IsB xs) (hs : Sl H 5 a0 n0 k0 (fs.flatMap Fld.cells)) (hf : ∀ f ∈ fs, FldOk H f) (hn : n0 ≤ 140737488355328) : ∃ H', Cc 7 [.slice a1 n1 k1, .slice a0 n0 k0] H = some (.bool true, H') := by
  obtain ⟨t, H1, c1, kp, ht⟩ := F29.ok hs hf hn
  have bad : ∃ H', L0 a1 n1 k1 a0 n0 k0 true H1 (.bool true, H') := by
    obtain ⟨H', c, _⟩ := F19.ok H1
    refine ⟨H', L0_step ?_⟩
    rw [if_pos rfl]
    exact ⟨_, _, c, rfl⟩
  cases t with
  | false =>
    obtain ⟨H', z⟩ := bad
    refine ⟨H', call ⟨_, _, c1, ?_⟩⟩
    rw [if_neg (by simp)]
    exact z
  | true =>
    by_cases h500 : (n1 : Int) > 500
    · obtain ⟨H', z⟩ := bad
      refine ⟨H', call ⟨_, _, c1, ?_⟩⟩
      rw [if_pos rfl, decide_eq_true h500]
      exact z
    · obtain ⟨q, a2, H2, c2, r2, hq, ha2, g2⟩ := F17.ok (h1.keep kp) hb (by omega)
      have k2 := kp.trans (g2.weak kp.next)
      obtain ⟨q2, a3, H3, c3, w3, hq2, ha3, g3⟩ := F30.ok (h1.keep k2) (by omega)
      have lq := r2.lt
      have n1 := kp.next
      have n2 := g2.next
      have la2 : ∀ b, In1 a2 b → b < H2.next := by obtain ⟨n, k, B, at_, h⟩ := r2; exact fun b hb => h.s.lt hb
      rw [unpack_text hb] at r2
      obtain ⟨H', z⟩ := l1 (q := q) (q2 := q2) hs hf hn (by omega) (by omega) (by omega) n0 0 H3 a2 a3 _ 0 (by omega) (k2.trans (g3.weak (by omega))) (r2.new g3) w3 (fun h => by have := la2 _ h; omega) fun h => by have := ha3 _ h; omega
      refine ⟨H', call ⟨_, _, c1, ?_⟩⟩
      rw [if_pos rfl, decide_eq_false h500]
      refine L0_step ?_
      rw [if_neg (by simp)]
      exact ⟨_, _, c2, _, _, c3, z⟩
theorem law {H : Heap} {ds : List (List Value)} (h : HoldsAll H [.slice (.int .u8) 1, .slice TFld 48] ds) : ∃ H', Cc 7 (vals [.slice (.int .u8) 1, .slice TFld 48] ds) H = some (.bool true, H') := by
  obtain ⟨d0, _, rfl, h0, h⟩ := h.cons
  obtain ⟨d1, _, rfl, h1, h⟩ := h.cons
  obtain rfl := h.nil
  obtain ⟨a, n, k, xs, rfl, s, b, w⟩ := h0.ints
  obtain ⟨a', n', k', fs, rfl, s', _, w', b'⟩ := h1.recs (f := Fld.cells) (Q := FldOk H) fun vs hv => fldOf hv
  exact ok s (IsB.of w) s' w' (by omega)
end F7
end Go.X
