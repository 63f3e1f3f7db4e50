/- The law of bits: what is put is taken. -/
import Derived.Test.YtdnokmjobpbhhaaXzLc4
set_option linter.unusedVariables false
set_option linter.unusedSimpArgs false
set_option maxRecDepth 20000
namespace Go.X
open Go Go.RowKit Go.Proofs
theorem scratch5 {H : Heap} {x0 x1 x2 x3 x4 y0 y1 y2 y3 y4 : Value} : ∃ H2, (stc (H.push (.row [x0, x1, x2, x3, x4] true)) H.next 0 [y0, y1, y2, y3, y4] = some H2) ∧ H2.get H.next = .row [y0, y1, y2, y3, y4] true ∧ Keep H.next H H2 ∧ H2.next = H.next + 1 := by
  have e : stc (H.push (.row [x0, x1, x2, x3, x4] true)) H.next 0 [y0, y1, y2, y3, y4] = some ((H.push (.row [x0, x1, x2, x3, x4] true)).set H.next (.row [y0, y1, y2, y3, y4] true)) := by
    have : (H.push (.row [x0, x1, x2, x3, x4] true)).get H.next = .row [x0, x1, x2, x3, x4] true := by simp
    unfold stc; rw [this]; rfl
  exact ⟨_, e, by simp, (Keep.push _ (Nat.le_refl _)).trans (Keep.set _ (Nat.le_refl _)), rfl⟩
def sumB (l : List Fld) : Nat := (l.map Fld.n).sum
theorem sumB_cons (f : Fld) (l : List Fld) : sumB (f :: l) = f.n + sumB l := by simp [sumB]
namespace F29
theorem l0 {G : Heap} {a : Option Addr} {n k : Nat} {fs : List Fld} (hs : Sl G 5 a n k (fs.flatMap Fld.cells)) (hf : ∀ f ∈ fs, FldOk G f) (hn : n ≤ 140737488355328) : ∀ (rest : List Fld) (j c : Nat) (H : Heap), fs.drop j = rest → j + rest.length = n → c ≤ 1000 → j ≤ 100 → Keep G.next G H →
    ∃ t H', L0 (c : Int) a n k (n : Int) (j : Int) H (.bool t, H') ∧ Keep G.next H H' ∧ (t = true → n ≤ 100 ∧ c + sumB rest ≤ 1000) := by
  intro rest
  induction rest with
  | nil =>
    intro j c H hd hj hc h100 hk
    simp only [List.length_nil] at hj
    refine ⟨true, H, L0_step ?_, Keep.refl _ _, fun _ => ⟨by omega, by simp [sumB]; omega⟩⟩
    rw [if_neg (by omega)]
  | cons f rest ih =>
    intro j c H hd hj hc h100 hk
    simp only [List.length_cons] at hj
    have hx := drop_get hd
    obtain ⟨b, o, rfl⟩ := hs.at (by omega)
    have ra := (hs.keep hk).recs Fld.z hx
    have hfn := (hf f (List.mem_of_getElem? hx)).small
    obtain ⟨H2, s1, s2, s3, s4⟩ := scratch5 (H := H) (x0 := .int .u64 0) (x1 := .int .i64 0) (x2 := .bool false) (x3 := .bool false) (x4 := .slice none 0 0) (y0 := .int .u64 f.v) (y1 := .int .i64 f.w) (y2 := .bool f.texts) (y3 := .bool f.evens) (y4 := .slice f.a f.n f.k)
    have k2 : Keep G.next H H2 := s3.weak hk.next
    have e1 : IntKind.wrap .i64 ((c : Int) + (f.n : Int)) = ((c + f.n : Nat) : Int) := by rw [i64 (by omega) (by omega)]; rfl
    by_cases h : (j : Int) ≥ 100
    · refine ⟨false, H2, L0_step ?_, k2, fun h => by cases h⟩
      rw [if_pos (by omega)]
      refine ⟨b, o, rfl, by omega, by omega, _, _, _, _, _, _, _, ra, _, rfl, H2, s1, _, _, _, rldc s2 4, ?_⟩
      rw [if_pos h]
      exact L1_step (by rw [if_pos rfl])
    · by_cases h2 : c + f.n ≤ 1000
      · obtain ⟨t, H', z, kp, ht⟩ := ih (j + 1) (c + f.n) H2 (drop_next hd) (by omega) h2 (by omega) (hk.trans k2)
        refine ⟨t, H', L0_step ?_, k2.trans kp, fun h => by have := ht h; rw [sumB_cons]; omega⟩
        rw [if_pos (by omega)]
        refine ⟨b, o, rfl, by omega, by omega, _, _, _, _, _, _, _, ra, _, rfl, H2, s1, _, _, _, rldc s2 4, ?_⟩
        rw [if_neg h, e1]
        refine L1_step ?_
        rw [if_neg (by simp; omega), i64 (by omega) (by omega)]
        exact_mod_cast z
      · refine ⟨false, H2, L0_step ?_, k2, fun h => by cases h⟩
        rw [if_pos (by omega)]
        refine ⟨b, o, rfl, by omega, by omega, _, _, _, _, _, _, _, ra, _, rfl, H2, s1, _, _, _, rldc s2 4, ?_⟩
        rw [if_neg h, e1]
        exact L1_step (by rw [if_pos (by simp; omega)])
theorem ok {H : Heap} {a : Option Addr} {n k : Nat} {fs : List Fld} (hs : Sl H 5 a n k (fs.flatMap Fld.cells)) (hf : ∀ f ∈ fs, FldOk H f) (hn : n ≤ 140737488355328) :
    ∃ t H', Cc 29 [.slice a n k] H = some (.bool t, H') ∧ Keep H.next H H' ∧ (t = true → n ≤ 100 ∧ sumB fs ≤ 1000) := by
  have hl := hs.cnt Fld.z (by decide)
  obtain ⟨t, H', z, kp, ht⟩ := l0 hs hf hn fs 0 0 H rfl (by omega) (by omega) (by omega) (Keep.refl _ _)
  exact ⟨t, H', call z, kp, fun h => by have := ht h; omega⟩
end F29
def Fld.wd (f : Fld) : Nat := (IntKind.wrap .i64 (Int.tmod (IntKind.wrap .u64 f.w) 65)).toNat
theorem Fld.wd_eq (f : Fld) : IntKind.wrap .i64 (Int.tmod (IntKind.wrap .u64 f.w) 65) = (f.wd : Int) ∧ f.wd < 65 := by
  obtain ⟨m, e, h⟩ := modN f.w 65 (by decide) (by decide)
  unfold Fld.wd
  rw [e, Int.toNat_natCast]
  exact ⟨rfl, by omega⟩
def Fld.ext (L : List Bool) (f : Fld) : List Bool := if f.texts = true then textBits f.bs else if f.evens = true then List.replicate ((8 - L.length % 8) % 8) false else bitsN (BitVec.ofInt 64 f.v) f.wd
def putBits (L : List Bool) : List Fld → List Bool
  | [] => L
  | f :: fs => putBits (L ++ f.ext L) fs
theorem putBits_pre : ∀ (fs : List Fld) (L : List Bool), ∃ t, putBits L fs = L ++ t
  | [], L => ⟨[], by simp [putBits]⟩
  | f :: fs, L => by
    obtain ⟨t, e⟩ := putBits_pre fs (L ++ f.ext L)
    exact ⟨f.ext L ++ t, by rw [putBits, e, List.append_assoc]⟩
/-- What is left behind the start of what was put. -/
theorem rest_ext {L : List Bool} {f : Fld} {fs : List Fld} : ∃ t, (fillUp (putBits L (f :: fs))).drop L.length = f.ext L ++ t ∧ (fillUp (putBits L (f :: fs))).drop (L ++ f.ext L).length = t := by
  obtain ⟨t, e⟩ := putBits_pre fs (L ++ f.ext L)
  have e2 : fillUp (putBits L (f :: fs)) = (L ++ f.ext L) ++ (t ++ List.replicate ((8 - (putBits L (f :: fs)).length % 8) % 8) false) := by
    show putBits (L ++ f.ext L) fs ++ _ = _
    rw [e, List.append_assoc]
  refine ⟨t ++ List.replicate ((8 - (putBits L (f :: fs)).length % 8) % 8) false, ?_, ?_⟩
  · rw [e2, List.append_assoc, List.drop_left]
  · rw [e2, List.drop_left]
theorem text_byte {c : Int} (hc : 0 ≤ c ∧ c < 256) : IntKind.wrap .u8 (nb (valOf (bitsN (BitVec.ofInt 64 c) 8))) = c := by
  have e : valOf (bitsN (BitVec.ofInt 64 c) 8) = BitVec.ofInt 64 c := by
    apply BitVec.eq_of_getLsbD_eq
    intro i hi
    rw [valOf_bitsN_get _ _ hi]
    by_cases h : i < 8
    · rw [decide_eq_true h]; simp
    · rw [decide_eq_false h, Bool.false_and]
      obtain ⟨n, rfl⟩ := Int.eq_ofNat_of_zero_le hc.1
      rw [BitVec.ofInt_natCast, BitVec.getLsbD_ofNat, decide_eq_true hi, Nat.testBit_lt_two_pow (Nat.lt_of_lt_of_le (show n < 2 ^ 8 by omega) (Nat.pow_le_pow_right (by decide) (by omega)))]
      rfl
  rw [e, nb_ofInt (by omega) (by omega), wrap_nb (k := .u8) rfl, nb_ofInt (by omega) (by show c < 2 ^ 8; omega)]
theorem bytesOf_text : ∀ (xs : List Int) (t : List Bool), IsB xs → bytesOf (textBits xs ++ t) xs.length = xs := by
  intro xs t hb
  apply List.ext_getElem?
  intro i
  by_cases h : i < xs.length
  · have hx : xs[i]? = some xs[i] := List.getElem?_eq_getElem h
    have e : ((textBits xs ++ t).drop (8 * i)).take 8 = bitsN (BitVec.ofInt 64 xs[i]) 8 := by
      have e1 : textBits xs = textBits (xs.take i) ++ (bitsN (BitVec.ofInt 64 xs[i]) 8 ++ textBits (xs.drop (i + 1))) := by
        have : xs = xs.take i ++ xs[i] :: xs.drop (i + 1) := by rw [← List.drop_eq_getElem_cons h, List.take_append_drop]
        conv => lhs; rw [this]
        unfold textBits
        rw [List.flatMap_append, List.flatMap_cons]
      rw [e1, List.append_assoc, List.drop_left' (by rw [textBits_len, List.length_take]; omega), List.append_assoc, List.take_left' (seg_len _ _ _)]
    rw [hx]
    unfold bytesOf
    rw [List.getElem?_map, List.getElem?_range h, Option.map_some, e, text_byte (hb.get hx)]
  · rw [List.getElem?_eq_none (by rw [bytesOf_len]; omega), List.getElem?_eq_none (by omega)]
namespace F10
variable {G : Heap} {a0 : Option Addr} {n0 k0 : Nat} {fs : List Fld} {q : Nat}
theorem l2 {LF : List Bool} (hs : Sl G 5 a0 n0 k0 (fs.flatMap Fld.cells)) (hf : ∀ f ∈ fs, FldOk G f) (hn : n0 ≤ 100) (hq : G.next ≤ q) : ∀ (rest : List Fld) (j : Nat) (L : List Bool) (H : Heap) (a : Option Addr), fs.drop j = rest → j + rest.length = n0 → putBits L rest = LF → (∀ b, In1 a b → G.next ≤ b) → Keep G.next G H → RM H q a ((fillUp LF).drop L.length) 0 →
    ∃ H', L2 (LF.length : Int) (some ⟨q, 0, none⟩) a0 n0 k0 (n0 : Int) (j : Int) H (.bool true, H') := by
  intro rest
  induction rest with
  | nil =>
    intro j L H a hd hj hL ha hk h
    simp only [List.length_nil] at hj
    have hL : L = LF := hL
    subst hL
    have ep : (fillUp L).drop L.length = List.replicate ((8 - L.length % 8) % 8) false := by unfold fillUp; rw [List.drop_left]
    rw [ep] at h
    have hsm := h.small
    have e8 : (List.replicate ((8 - L.length % 8) % 8) false).length % 8 = (8 - L.length % 8) % 8 := by rw [List.length_replicate]; omega
    have el : Int.tmod (IntKind.wrap .i64 (8 - Int.tmod (L.length : Int) 8)) 8 = ((List.replicate ((8 - L.length % 8) % 8) false).length : Int) := by
      rw [tmod8, i64 (by omega) (by omega), List.length_replicate, Int.tmod_eq_emod_of_nonneg (by omega)]; omega
    rcases F33.ok h with ⟨_, H3, c3, r3, _⟩ | ⟨⟨x, hx, hxt⟩, _⟩
    · rw [e8, List.drop_replicate, Nat.sub_self] at r3
      obtain ⟨H', c5, _⟩ := F19.ok H3
      refine ⟨H', L2_step ?_⟩
      rw [if_neg (by omega)]
      refine ⟨_, _, F36.ok h, ?_⟩
      rw [if_pos el.symm]
      refine ⟨_, c3, _, _, F37.ok r3, ?_⟩
      rw [if_pos (by simp)]
      exact ⟨_, _, c5, rfl⟩
    · have := List.eq_of_mem_replicate (List.mem_of_mem_take hx)
      rw [hxt] at this; cases this
  | cons f rest ih =>
    intro j L H a hd hj hL ha hk h
    simp only [List.length_cons] at hj
    have hx := drop_get hd
    obtain ⟨b, o, rfl⟩ := hs.at (by omega)
    have ra := (hs.keep hk).recs Fld.z hx
    have hfo := hf f (List.mem_of_getElem? hx)
    have hfl := hfo.s.ln
    obtain ⟨H2, s1, s2, s3, s4⟩ := scratch5 (H := H) (x0 := .int .u64 0) (x1 := .int .i64 0) (x2 := .bool false) (x3 := .bool false) (x4 := .slice none 0 0) (y0 := .int .u64 f.v) (y1 := .int .i64 f.w) (y2 := .bool f.texts) (y3 := .bool f.evens) (y4 := .slice f.a f.n f.k)
    have h2 := h.new s3
    have hk2 := hk.trans (s3.weak hk.next)
    have hqlt := h.lt
    obtain ⟨t, e1, e2⟩ := rest_ext (L := L) (f := f) (fs := rest)
    rw [hL] at e1 e2
    obtain ⟨ew, hw⟩ := f.wd_eq
    have hsm := h.small
    -- what comes behind
    have nx : ∀ (H3 : Heap), RM H3 q a t 0 → Chg (fun b => b = q) H2 H3 → ∃ H', L4 (LF.length : Int) (some ⟨q, 0, none⟩) true b o n0 k0 (n0 : Int) (j : Int) H3 (.bool true, H') := by
      intro H3 r3 g3
      rw [← e2] at r3
      obtain ⟨H', z⟩ := ih (j + 1) (L ++ f.ext L) H3 a (drop_next hd) (by omega) hL ha (hk2.trans (g3.keep hk2.next fun b _ h => by have h : b = q := h; omega)) r3
      refine ⟨H', L4_step ?_⟩
      rw [if_pos rfl, i64 (by omega) (by omega)]
      exact_mod_cast z
    rw [e1] at h2
    have h2s := h2.small
    by_cases ht : f.texts = true
    · have ee : f.ext L = textBits f.bs := if_pos ht
      rw [ee] at h2
      have fin : ∀ (a5 : Option Addr) (k5 : Nat) (H3 : Heap), Cc 31 [.pointer (some ⟨q, 0, none⟩), .int .i64 (f.n : Int)] H2 = some (.slice a5 f.n k5, H3) → By H3 a5 f.n k5 f.bs → RM H3 q a t 0 → Chg (fun b => b = q) H2 H3 →
          ∃ H', L2 (LF.length : Int) (some ⟨q, 0, none⟩) (some ⟨b, o, none⟩) n0 k0 (n0 : Int) (j : Int) H (.bool true, H') := by
        intro a5 k5 H3 c3 s5 r3 g3
        obtain ⟨H', z⟩ := nx H3 r3 g3
        have g : H3.get H.next = .row [.int .u64 f.v, .int .i64 f.w, .bool f.texts, .bool f.evens, .slice f.a f.n f.k] true := by rw [g3.get _ (by omega) fun h => by have h : H.next = q := h; omega]; exact s2
        refine ⟨H', L2_step ?_⟩
        rw [if_pos (by omega)]
        refine ⟨b, o, rfl, by omega, by omega, _, _, _, _, _, _, _, ra, _, rfl, H2, s1, _, rldc s2 1, _, rldc s2 2, ?_⟩
        rw [if_pos ht]
        refine ⟨_, _, _, rldc s2 4, _, _, _, _, c3, _, s5.str, _, _, _, rldc s2 4, _, (hfo.s.keep hk2).str, rldc g 4, ?_, ?_⟩
        · exact (hfo.s.keep (hk2.trans (g3.keep hk2.next fun b _ h => by have h : b = q := h; omega))).str
        · rw [beq_self_eq_true]; exact z
      by_cases h0 : f.n = 0
      · have hbs : f.bs = [] := List.eq_nil_of_length_eq_zero (by omega)
        have hh := F31.none h2 (n := (f.n : Int)) (by omega)
        refine fin none 0 H2 (by rw [h0] at hh ⊢; exact hh) (by rw [h0, hbs]; exact Ints.nil) ?_ (Chg.refl _)
        rw [hbs] at h2
        exact h2
      · obtain ⟨a5, k5, H3, c3, r3, o3, g3⟩ := F31.text h2 (n := f.n) (by omega) (by rw [List.length_append, textBits_len]; omega)
        rw [← hfl, bytesOf_text _ _ hfo.b] at o3
        rw [List.drop_left' (by rw [textBits_len]; omega)] at r3
        exact fin a5 k5 H3 c3 (by rw [← hfl]; exact o3.sl) r3 g3
    · by_cases hv : f.evens = true
      · have ee : f.ext L = List.replicate ((8 - L.length % 8) % 8) false := (if_neg ht).trans (if_pos hv)
        have e8 : (f.ext L ++ t).length % 8 = (8 - L.length % 8) % 8 := by
          rw [← e1, List.length_drop, fillUp_len]
          obtain ⟨u, hu⟩ := putBits_pre (f :: rest) L
          rw [hL] at hu
          have : LF.length = L.length + u.length := by rw [hu, List.length_append]
          omega
        rcases F33.ok h2 with ⟨_, H3, c3, r3, f3⟩ | ⟨⟨x, hx', hxt⟩, _⟩
        · rw [e8, ee, List.drop_left' (by simp)] at r3
          obtain ⟨H', z⟩ := nx H3 r3 f3.chg
          refine ⟨H', L2_step ?_⟩
          rw [if_pos (by omega)]
          refine ⟨b, o, rfl, by omega, by omega, _, _, _, _, _, _, _, ra, _, rfl, H2, s1, _, rldc s2 1, _, rldc s2 2, ?_⟩
          rw [if_neg ht]
          refine ⟨_, rldc s2 3, ?_⟩
          rw [if_pos hv]
          exact ⟨_, c3, z⟩
        · rw [e8, ee, List.take_left' (by simp)] at hx'
          have := List.eq_of_mem_replicate hx'
          rw [hxt] at this; cases this
      · have ee : f.ext L = bitsN (BitVec.ofInt 64 f.v) f.wd := (if_neg ht).trans (if_neg hv)
        rw [ee] at h2
        obtain ⟨H3, c3, r3, f3⟩ := F18.take h2 (w := f.wd) (by omega) (by rw [List.length_append, seg_len]; omega)
        rw [List.take_left' (seg_len _ _ _)] at c3
        rw [List.drop_left' (seg_len _ _ _)] at r3
        obtain ⟨H', z⟩ := nx H3 r3 f3.chg
        have g : H3.get H.next = .row [.int .u64 f.v, .int .i64 f.w, .bool f.texts, .bool f.evens, .slice f.a f.n f.k] true := by rw [f3.chg.get _ (by omega) fun h => by have h : H.next = q := h; omega]; exact s2
        have hm := mask64_int ⟨f.wd, by omega⟩
        simp only at hm
        have hv2 := hfo.v
        have hand : iand .u64 f.v (nb ((1#64 <<< f.wd) - 1#64)) = nb (BitVec.ofInt 64 f.v &&& ((1#64 <<< f.wd) - 1#64)) := (congrArg (fun x => iand .u64 x (nb ((1#64 <<< f.wd) - 1#64))) hv2).trans (iand_nb (k := .u64) rfl _ _)
        refine ⟨H', L2_step ?_⟩
        rw [if_pos (by omega)]
        refine ⟨b, o, rfl, by omega, by omega, _, _, _, _, _, _, _, ra, _, rfl, H2, s1, _, rldc s2 1, _, rldc s2 2, ?_⟩
        rw [if_neg ht]
        refine ⟨_, rldc s2 3, ?_⟩
        rw [if_neg hv, ew, u64n _ (by omega), hm]
        refine ⟨_, _, c3, _, rldc s2 0, by omega, rldc g 0, ?_⟩
        rw [hand, valOf_mask _ (by omega), beq_self_eq_true]
        exact z
theorem tdiv8 (x : Nat) : Int.tdiv ((x : Int)) 8 = ((x / 8 : Nat) : Int) := by rw [Int.tdiv_eq_ediv_of_nonneg (by omega)]; omega
theorem l0 {p : Nat} (hs : Sl G 5 a0 n0 k0 (fs.flatMap Fld.cells)) (hf : ∀ f ∈ fs, FldOk G f) (hn : n0 ≤ 100) (hp : G.next ≤ p) : ∀ (rest : List Fld) (j : Nat) (L : List Bool) (H : Heap) (a : Option Addr) (n k : Nat), fs.drop j = rest → j + rest.length = n0 → putBits L rest = putBits [] fs → (∀ b, In1 a b → G.next ≤ b) → Keep G.next G H → WR H p L a n k →
    L.length + 72 * rest.length + 8 * sumB rest ≤ 100000 → ∃ H', L0 a0 n0 k0 p 0 (L.length : Int) a0 n0 k0 (n0 : Int) (j : Int) H (.bool true, H') := by
  intro rest
  induction rest with
  | nil =>
    intro j L H a n k hd hj hL ha hk h hb
    simp only [List.length_nil] at hj
    have hL : L = putBits [] fs := hL
    obtain ⟨a5, k5, H5, c5, o5, g5⟩ := F16.ok h (by omega)
    obtain ⟨q, a6, H6, c6, r6, hq, ha6, g6⟩ := F17.ok o5.sl (pack_isB L) (by rw [pack_len]; omega)
    rw [unpack_pack] at r6
    have hk5 := hk.trans (g5.weak hk.next)
    have hn5 := hk5.next
    obtain ⟨H', z⟩ := l2 hs hf hn (q := q) (by omega) fs 0 [] H6 a6 rfl (by have := hs.cnt Fld.z (by decide); omega) hL.symm (fun b hb => by have := ha6 b hb; omega) (hk5.trans (g6.weak hk5.next)) (by simpa using r6)
    refine ⟨H', L0_step ?_⟩
    rw [if_neg (by omega)]
    exact ⟨_, _, _, _, c5, _, _, c6, z⟩
  | cons f rest ih =>
    intro j L H a n k hd hj hL ha hk h hb
    rw [sumB_cons] at hb
    simp only [List.length_cons] at hj hb
    have hx := drop_get hd
    obtain ⟨b, o, rfl⟩ := hs.at (by omega)
    have ra := (hs.keep hk).recs Fld.z hx
    have hfo := hf f (List.mem_of_getElem? hx)
    have hfl := hfo.s.ln
    obtain ⟨H2, s1, s2, s3, s4⟩ := scratch5 (H := H) (x0 := .int .u64 0) (x1 := .int .i64 0) (x2 := .bool false) (x3 := .bool false) (x4 := .slice none 0 0) (y0 := .int .u64 f.v) (y1 := .int .i64 f.w) (y2 := .bool f.texts) (y3 := .bool f.evens) (y4 := .slice f.a f.n f.k)
    have h2 := h.new s3
    have hk2 := hk.trans (s3.weak hk.next)
    obtain ⟨ew, hw⟩ := f.wd_eq
    have hlt := h.lt
    have hle : (f.ext L).length ≤ 72 + 8 * f.n := by
      unfold Fld.ext
      split
      · rw [textBits_len]; omega
      · split
        · rw [List.length_replicate]; omega
        · rw [seg_len]; omega
    have nx : ∀ (a3 : Option Addr) (n3 k3 : Nat) (H3 : Heap), WR H3 p (L ++ f.ext L) a3 n3 k3 → Ft p a a3 H2 H3 → ∃ H', L1 (some ⟨b, o, none⟩) n0 k0 p 0 ((L ++ f.ext L).length : Int) b o n0 k0 (n0 : Int) (j : Int) H3 (.bool true, H') := by
      intro a3 n3 k3 H3 w3 f3
      have hk3 := hk2.trans (f3.keep hk2.next hp ha)
      obtain ⟨a5, k5, H5, c5, o5, g5⟩ := F16.ok w3 (by rw [List.length_append]; omega)
      obtain ⟨H', z⟩ := ih (j + 1) (L ++ f.ext L) H5 a3 n3 k3 (drop_next hd) (by omega) hL (fun b hb => by
        rcases f3.arr b hb with e | e
        · exact ha b e
        · have := hk2.next; omega) (hk3.trans (g5.weak hk3.next)) (w3.new g5) (by rw [List.length_append]; omega)
      refine ⟨H', L1_step ⟨_, _, F15.ok w3, ?_⟩⟩
      rw [if_pos rfl]
      refine ⟨_, _, _, _, c5, L3_step ?_⟩
      have e : IntKind.wrap .i64 (Int.tdiv (IntKind.wrap .i64 (((L ++ f.ext L).length : Int) + 7)) 8) = ((pack (L ++ f.ext L)).length : Int) := by
        rw [i64 (n := ((L ++ f.ext L).length : Int) + 7) (by omega) (by rw [List.length_append]; omega), show ((L ++ f.ext L).length : Int) + 7 = (((L ++ f.ext L).length + 7 : Nat) : Int) from rfl, tdiv8, i64 (by omega) (by rw [List.length_append]; omega), pack_len]
      rw [e, if_neg (by simp), i64 (by omega) (by omega)]
      exact_mod_cast z
    by_cases ht : f.texts = true
    · have ee : f.ext L = textBits f.bs := if_pos ht
      obtain ⟨a3, n3, k3, H3, c3, w3, f3⟩ := F39.ok (base := 0) hfo.s hk2 h2 (by omega) (by omega) hp ha
      have g : H3.get H.next = .row [.int .u64 f.v, .int .i64 f.w, .bool f.texts, .bool f.evens, .slice f.a f.n f.k] true := by
        rw [f3.chg.get _ (by omega) fun h3 => ?_]; exact s2
        rcases h3 with h3 | h3
        · omega
        · have := h.own.lt h3; omega
      rw [← ee] at w3
      obtain ⟨H', z⟩ := nx a3 n3 k3 H3 w3 f3
      refine ⟨H', L0_step ?_⟩
      rw [if_pos (by omega)]
      refine ⟨b, o, rfl, by omega, by omega, _, _, _, _, _, _, _, ra, _, rfl, H2, s1, _, rldc s2 1, _, rldc s2 2, ?_⟩
      rw [if_pos ht]
      refine ⟨_, _, _, rldc s2 4, _, c3, _, _, _, rldc g 4, ?_⟩
      rw [i64 (n := 8 * (f.n : Int)) (by omega) (by omega), i64 (by omega) (by omega), show (L.length : Int) + 8 * (f.n : Int) = ((L ++ f.ext L).length : Int) by rw [ee, List.length_append, textBits_len]; omega]
      exact z
    · by_cases hv : f.evens = true
      · have ee : f.ext L = List.replicate ((8 - L.length % 8) % 8) false := (if_neg ht).trans (if_pos hv)
        obtain ⟨H3, c3, w3, f3⟩ := F40.ok h2 (by omega)
        have w3' : WR H3 p (L ++ f.ext L) a n k := by rw [ee]; exact w3
        obtain ⟨H', z⟩ := nx a n k H3 w3' f3
        refine ⟨H', L0_step ?_⟩
        rw [if_pos (by omega)]
        refine ⟨b, o, rfl, by omega, by omega, _, _, _, _, _, _, _, ra, _, rfl, H2, s1, _, rldc s2 1, _, rldc s2 2, ?_⟩
        rw [if_neg ht]
        refine ⟨_, rldc s2 3, ?_⟩
        rw [if_pos hv]
        refine ⟨_, c3, ?_⟩
        rw [i64 (n := (L.length : Int) + 7) (by omega) (by omega), show (L.length : Int) + 7 = ((L.length + 7 : Nat) : Int) from rfl, tdiv8, i64 (n := (((L.length + 7) / 8 : Nat) : Int)) (by omega) (by omega), i64 (by omega) (by omega), show (((L.length + 7) / 8 : Nat) : Int) * 8 = ((L ++ f.ext L).length : Int) by rw [ee, List.length_append, List.length_replicate]; omega]
        exact z
      · have ee : f.ext L = bitsN (BitVec.ofInt 64 f.v) f.wd := (if_neg ht).trans (if_neg hv)
        obtain ⟨a3, n3, k3, H3, c3, w3, f3⟩ := F14.ok (v := BitVec.ofInt 64 f.v) h2 (width := f.wd) (by omega) (by omega)
        rw [← hfo.v] at c3
        rw [← ee] at w3
        obtain ⟨H', z⟩ := nx a3 n3 k3 H3 w3 f3
        refine ⟨H', L0_step ?_⟩
        rw [if_pos (by omega)]
        refine ⟨b, o, rfl, by omega, by omega, _, _, _, _, _, _, _, ra, _, rfl, H2, s1, _, rldc s2 1, _, rldc s2 2, ?_⟩
        rw [if_neg ht]
        refine ⟨_, rldc s2 3, ?_⟩
        rw [if_neg hv, ew]
        refine ⟨_, rldc s2 0, _, c3, ?_⟩
        rw [i64 (by omega) (by omega), show (L.length : Int) + (f.wd : Int) = ((L ++ f.ext L).length : Int) by rw [ee, List.length_append, seg_len]; omega]
        exact z
theorem ok {H : Heap} (hs : Sl H 5 a0 n0 k0 (fs.flatMap Fld.cells)) (hf : ∀ f ∈ fs, FldOk H f) (hn : n0 ≤ 140737488355328) : ∃ H', Cc 10 [.slice a0 n0 k0] H = some (.bool true, H') := by
  obtain ⟨t, H1, c1, k1, ht⟩ := F29.ok hs hf hn
  have hl := hs.cnt Fld.z (by decide)
  cases t with
  | false =>
    obtain ⟨H', c, _⟩ := F19.ok H1
    refine ⟨H', call ⟨_, _, c1, ?_⟩⟩
    rw [if_neg (by simp)]
    exact ⟨_, _, c, rfl⟩
  | true =>
    have h1 := ht rfl
    have w0 := WR.mk0 H1
    generalize e : H1.push (.row [.slice none 0 0, .int .i64 0] true) = H2 at w0
    have k2 : Keep H1.next H1 H2 := by rw [← e]; exact Keep.push _ (Nat.le_refl _)
    obtain ⟨H', z⟩ := l0 (p := H1.next) hs hf h1.1 k1.next fs 0 [] H2 none 0 0 rfl (by omega) rfl (fun b hb => absurd hb In1.none) (k1.trans (k2.weak k1.next)) w0 (by simp; omega)
    refine ⟨H', call ⟨_, _, c1, ?_⟩⟩
    rw [if_pos rfl]
    exact ⟨_, e.symm, z⟩
theorem law {H : Heap} {ds : List (List Value)} (h : HoldsAll H [.slice TFld 48] ds) : ∃ H', Cc 10 (vals [.slice TFld 48] ds) H = some (.bool true, H') := by
  obtain ⟨d0, _, rfl, h0, h⟩ := h.cons
  obtain rfl := h.nil
  obtain ⟨a, n, k, fs, rfl, s, _, w, b⟩ := h0.recs (f := Fld.cells) (Q := FldOk H) fun vs hv => fldOf hv
  exact ok s w (by omega)
end F10
end Go.X
