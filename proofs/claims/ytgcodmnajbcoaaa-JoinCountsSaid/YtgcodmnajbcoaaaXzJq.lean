/- The law JoinCounts. -/
import Derived.Test.YtgcodmnajbcoaaaXzJp
import Derived.Test.YtgcodmnajbcoaaaXzTf6
set_option linter.unusedVariables false
set_option linter.unusedSimpArgs false
set_option maxRecDepth 20000
namespace Go.X
open Go Go.RowKit Go.Proofs
namespace F6
/-- The request number i. -/
def rq (i : Nat) : RQ := ⟨2, 0, (i : Int), (i : Int) + 1, 0⟩
def ask (key : Int) (i : Nat) : List Int := sealed key (encR (rq i))
theorem rq_may (i : Nat) : mayR (rq i) := ⟨(by decide : inP 2 0 15), (by decide : inP 0 0 15), (by decide : (2 : Int) ≠ 0)⟩
theorem ask_len (key : Int) (i : Nat) : (ask key i).length = 15 := by rw [ask, sealed_len, encR_len]
theorem ask_isB (key : Int) (i : Nat) : IsB (ask key i) := sealed_isB (encR_isB (rq_may i))
theorem ask_dec (key : Int) {i : Nat} (h : i < 20) : decR (ask key i) = (⟨2, 0, (i : Int), (i : Int) + 1, nb (tagB key (encR (rq i)))⟩, 0) :=
  decR_ask key (rq_may i) ⟨by show (0 : Int) ≤ (i : Int); omega, by show (i : Int) < _; omega⟩ ⟨by show (0 : Int) ≤ (i : Int) + 1; omega, by show (i : Int) + 1 < _; omega⟩
def sl (p : Option Addr × Nat) : Value := .slice p.1 15 p.2
/-- What is sent. -/
structure Sent (base S D : Nat) (ca : Option Addr) (H : Heap) (key : Int) (ps : List (Option Addr × Nat)) : Prop where
  by_ : ∀ j p, ps[j]? = some p → By H p.1 15 p.2 (ask key j)
  ap : ∀ p ∈ ps, ∀ b, In1 p.1 b → base ≤ b
theorem Sent.chg {base S D : Nat} {ca : Option Addr} {H H' : Heap} {key : Int} {ps : List (Option Addr × Nat)} {T : Nat → Prop} (h : Sent base S D ca H key ps) (c : Chg T H H') (hT : ∀ p ∈ ps, ∀ b, In1 p.1 b → ¬T b) : Sent base S D ca H' key ps :=
  ⟨fun j p hp => (show By H' p.1 15 p.2 (ask key j) from Sl.chg (h.by_ j p hp) c (hT p (List.mem_of_getElem? hp))), h.ap⟩
theorem fin_ {key : Int} {n m : Nat} {D S b0 o0 k9 base : Nat} {ka ca : Option Addr} {kk ck : Nat} {H : Heap} {ps : List (Option Addr × Nat)} (hn : 2 ≤ n ∧ n ≤ 9) (hm : m + 1 < n) (hd : DK H D ka kk ca ck [1, 2, key] [0, 0, 0])
    (ho : Own base H 1 (some ⟨b0, o0, none⟩) n k9 (ps.map sl)) (hps : ps.length = n) (hs : Sent base S D ca H key ps) (hcb : ∀ b, In1 ca b → b < base) :
    ∃ H', L1 (n : Int) (m : Int) (some ⟨D, 0, none⟩) (some ⟨S, 0, none⟩) (some ⟨b0, o0, none⟩) n k9 (n : Int) (n : Int) H (.bool true, H') := by
  obtain ⟨p1, hp1⟩ : ∃ p, ps[n - 1]? = some p := ⟨_, List.getElem?_eq_getElem (by omega)⟩
  obtain ⟨p2, hp2⟩ : ∃ p, ps[m]? = some p := ⟨_, List.getElem?_eq_getElem (by omega)⟩
  have hap : ∀ p ∈ ps, ∀ b, In1 p.1 b → ¬In1 ca b := fun p hp b hb hh => by have := hs.ap p hp b hb; have := hcb b hh; omega
  have hcl := hd.cl
  have hbb : base ≤ b0 ∧ b0 < H.next := ho.lt (In1.eq.2 rfl)
  have key1 : ([1, 2, key] : List Int)[2]? = some key := rfl
  have t1 := takeV_ask (l := []) (keys := [1, 2, key]) (counts := [0, 0, 0]) (v := rq (n - 1)) (N := 2) (rq_may _) ⟨by show (0 : Int) ≤ ((n - 1 : Nat) : Int); omega, by show ((n - 1 : Nat) : Int) < _; omega⟩ ⟨by show (0 : Int) ≤ ((n - 1 : Nat) : Int) + 1; omega, by show ((n - 1 : Nat) : Int) + 1 < _; omega⟩ rfl key1 (by show (0 : Int) < ((n - 1 : Nat) : Int) + 1; omega)
  have ec : ([0, 0, 0] : List Int).set 2 (rq (n - 1)).c = [0, 0, (n : Int)] := by show [0, 0, ((n - 1 : Nat) : Int) + 1] = _; rw [show ((n - 1 : Nat) : Int) + 1 = (n : Int) by omega]
  rw [ec] at t1
  have t2 := takeV_old (l := []) (keys := [1, 2, key]) (counts := [0, 0, (n : Int)]) (v := rq m) (N := 2) (rq_may _) ⟨by show (0 : Int) ≤ ((m : Nat) : Int); omega, by show ((m : Nat) : Int) < _; omega⟩ ⟨by show (0 : Int) ≤ ((m : Nat) : Int) + 1; omega, by show ((m : Nat) : Int) + 1 < _; omega⟩ rfl key1 (by show ((m : Nat) : Int) + 1 ≤ (n : Int); omega)
  have eg : F22.given ⟨(rq (n - 1)).n, (rq (n - 1)).p, (rq (n - 1)).a, (rq (n - 1)).c, nb (tagB key (encR (rq (n - 1))))⟩ [] = ⟨2, 0, ((n - 1 : Nat) : Int), [], 0⟩ := by
    unfold F22.given; rw [if_pos ⟨by simp, fun c hc => by cases hc⟩]; rfl
  rw [eg] at t1
  obtain ⟨g5, H5, c5, ok5, v5, _, d5, f5⟩ := F22.ok (l := []) (a2 := none) (n2 := 0) (k2 := 0) hd (hs.by_ _ _ hp1) (ask_isB _ _) (by omega) ⟨rfl, .inl ⟨rfl, rfl, rfl⟩⟩ (by omega) (fun b hb => absurd hb In1.none)
  rw [show ask key (n - 1) = sealed key (encR (rq (n - 1))) from rfl, t1] at c5 v5 d5
  simp only at v5 d5
  obtain ⟨H7, s7, g7, k7, n7⟩ := fill H5 gr0.cells g5.cells rfl
  have n5 := f5.next
  have f7 : Chg (In1 ca) H H7 := f5.trans (k7.chg0 (S := In1 ca)) fun _ _ h => h
  have s7' := hs.chg f7 hap
  have o7 := ho.chg f7 fun b hb hh => by have := In1.eq.1 hb; have := hcb b hh; omega
  obtain ⟨g8, H8, c8, ok8, v8, _, d8, f8⟩ := F22.ok (l := []) (a2 := none) (n2 := 0) (k2 := 0) (d5.new k7) (s7'.by_ _ _ hp2) (ask_isB _ _) (by omega) ⟨rfl, .inl ⟨rfl, rfl, rfl⟩⟩ (by omega) (fun b hb => absurd hb In1.none)
  rw [show ask key m = sealed key (encR (rq m)) from rfl, t2] at c8 v8 d8
  simp only at v8 d8
  obtain ⟨H10, s10, g10, k10, n10⟩ := fill H8 gr0.cells g8.cells rfl
  have n8 := f8.next
  have d10 := d8.new k10
  have g7' : H10.get H5.next = .row g5.cells true := by rw [k10.get _ (by omega), f8.get _ (by omega) fun hh => by have := hcb _ hh; omega]; exact g7
  have c11 := F27.ok d10 2
  have c12 := F27.ok d10 3
  obtain ⟨H13, c13, _⟩ := F8.ok H10
  have q1 : (ps.map sl)[n - 1]? = some (.slice p1.1 15 p1.2) := by rw [List.getElem?_map, hp1]; rfl
  have q2 : (ps.map sl)[m]? = some (.slice p2.1 15 p2.2) := by rw [List.getElem?_map, hp2]; rfl
  refine ⟨H13, L1_step ?_⟩
  have ei : IntKind.wrap .i64 ((n : Int) - 1) = ((n - 1 : Nat) : Int) := by rw [i64 (by omega) (by omega)]; omega
  rw [if_neg (by omega), ei]
  refine ⟨b0, o0, rfl, by omega, by omega, _, _, _, by rw [Int.toNat_natCast]; exact Sl.ld1 ho.sl q1, _, _, _, _, _, _, _, _, _, c5, _, rfl, H7, s7, by omega, by omega, _, _, _, by rw [Int.toNat_natCast]; exact Sl.ld1 o7.sl q2, _, _, _, _, _, _, _, _, _, c8, _, rfl, H10, s10, _, _, _, c11, _, _, _, c12, ?_⟩
  rw [if_pos rfl, if_pos rfl]
  refine ⟨_, rldc' g7' 1, ?_⟩
  rw [if_pos (by rw [v5])]
  refine ⟨_, _, _, rldc' g7' 3, ?_⟩
  rw [if_pos (by rw [v5]; rfl), if_pos (by simp), if_pos (by rw [u32_id (by constructor; omega; show (n : Int) < 2 ^ 32; omega)]; rfl), if_neg (by simp)]
  exact ⟨_, _, c13, rfl⟩
theorem loop {key : Int} {n m : Nat} {D S base : Nat} {ka ca : Option Addr} {kk ck : Nat} (hn : 2 ≤ n ∧ n ≤ 9) (hm : m + 1 < n) (hcb : ∀ b, In1 ca b → b < base) (hkb : ∀ b, In1 ka b → b < base) (hDb : D < base) (hS : S < base) (hSD : S ≠ D) (hSk : ¬In1 ka S) (hSc : ¬In1 ca S) : ∀ (r i : Nat) (a : Option Addr) (k : Nat) (a0 : Int) (w : Bool) (ps : List (Option Addr × Nat)) (H : Heap), i + r = n → base ≤ H.next → DK H D ka kk ca ck [1, 2, key] [0, 0, 0] → H.get S = .row (rowS 2 key (i : Int) a0 w) true →
    Own base H 1 a i k (ps.map sl) → ps.length = i → Sent base S D ca H key ps → (∀ p ∈ ps, ∀ b, In1 p.1 b → ¬In1 a b) → ∃ H', L1 (n : Int) (m : Int) (some ⟨D, 0, none⟩) (some ⟨S, 0, none⟩) a i k (n : Int) (i : Int) H (.bool true, H') := by
  intro r
  induction r with
  | zero =>
    intro i a k a0 w ps H hi hb hd gS ho hps hs hap
    obtain rfl : i = n := by omega
    obtain ⟨b, o, rfl⟩ := ho.sl.at (by omega)
    exact fin_ hn hm hd ho hps hs hcb
  | succ r ih =>
    intro i a k a0 w ps H hi hb hd gS ho hps hs hap
    obtain ⟨x, j, H1, c1, o1, gS1, f1⟩ := F21.ok (parent := 0) (a := (i : Int)) gS (by omega) (by decide) (by decide) (by decide) ⟨by omega, by omega⟩
    have ex : sealed key (encR ⟨2, 0, (i : Int), (i : Int) + 1, 0⟩) = ask key i := rfl
    rw [ex, ask_len] at c1 o1
    obtain ⟨H2, c2, k2⟩ := F14.ok o1.sl (ask_isB key i) (by omega)
    rw [ask_dec key (by omega)] at c2
    simp only at c2
    obtain ⟨H4, s4, g4, k4, n4⟩ := fill H2 rq0.cells (⟨2, 0, (i : Int), (i : Int) + 1, nb (tagB key (encR (rq i)))⟩ : RQ).cells rfl
    obtain ⟨H5, e5, n5, g5, k5⟩ := one H4 [.slice x 15 j]
    have n1 := f1.next
    have n2 := k2.next
    have k14 := k2.th k4
    have f4 : Chg (fun b => b = S) H H4 := f1.trans (k14.chg0 (S := fun b => b = S)) fun _ _ h => h
    have f5 : Chg (fun b => b = S) H H5 := f4.trans (k5.chg0 (S := fun b => b = S)) fun _ _ h => h
    have hap' : ∀ p ∈ ps, ∀ b, In1 p.1 b → ¬(b = S) := fun p hp b hb hh => by have := hs.ap p hp b hb; omega
    have o5 := ho.chg f5 fun b hb hh => by have := (ho.lt hb).1; have hh : b = S := hh; omega
    have s5 := hs.chg f5 hap'
    have ln : ∀ p ∈ ps, ∀ b, In1 p.1 b → b < H.next := fun p hp b hb => by
      obtain ⟨q, hq, e⟩ := List.getElem_of_mem hp
      exact Sl.lt (hs.by_ q p (by rw [List.getElem?_eq_getElem hq, e])) hb
    have q5 : Sl H5 1 (some ⟨H4.next, 0, none⟩) 1 (UNK 1) [.slice x 15 j] := by rw [e5]; exact (Own.new (H := H4) (z := 1) (n := 1) (vs := [.slice x 15 j]) rfl).sl
    obtain ⟨a6, k6, H6, c6, o6, f6, i6⟩ := Own.append' (by_ := 24) o5 q5 (by decide) (by have := f5.next; omega) (by omega) (by omega)
    have ox6 : OwnI .u8 H.next H6 x 15 j (ask key i) := ((o1.keep k14).keep k5).chg f6 fun b hb hh => by have := (o1.lt hb).1; have := (ho.lt hh).2; omega
    have d6 : DK H6 D ka kk ca ck [1, 2, key] [0, 0, 0] := (hd.chg f5 (fun hh => hSD (show D = S from hh).symm) (fun b hb hh => hSk ((show b = S from hh) ▸ hb)) fun b hb hh => hSc ((show b = S from hh) ▸ hb)).chg f6 (fun hh => by have := (ho.lt hh).1; omega) (fun b hb hh => by have := (ho.lt hh).1; have := hkb b hb; omega) fun b hb hh => by have := (ho.lt hh).1; have := hcb b hb; omega
    have g6 : H6.get S = .row (rowS 2 key (((i + 1 : Nat) : Int)) (i : Int) true) true := by
      rw [f6.get _ (by have := f5.next; omega) fun hh => by have := (ho.lt hh).1; omega, k5.get _ (by omega), k14.get _ (by omega), gS1]; rfl
    have s6 : Sent base S D ca H6 key (ps ++ [(x, j)]) := by
      have s6 := s5.chg f6 fun p hp b hb hh => hap p hp b hb hh
      refine ⟨fun q p hq => ?_, fun p hp b hb => ?_⟩
      · by_cases hlt : q < ps.length
        · rw [List.getElem?_append_left hlt] at hq; exact s6.by_ q p hq
        · rw [List.getElem?_append_right (by omega)] at hq
          have hq1 := (List.getElem?_eq_some_iff.1 hq).1
          have : q = i := by simp at hq1; omega
          subst this
          rw [hps, Nat.sub_self] at hq
          obtain rfl : (x, j) = p := Option.some.inj hq
          exact ox6.sl
      · rcases List.mem_append.1 hp with hp | hp
        · exact s6.ap p hp b hb
        · obtain rfl := List.mem_singleton.1 hp
          have := (o1.lt hb).1; omega
    have ha6 : ∀ p ∈ ps ++ [(x, j)], ∀ b, In1 p.1 b → ¬In1 a6 b := by
      intro p hp b hb hh
      have n5' : H4.next ≤ H5.next := k5.next
      rcases List.mem_append.1 hp with hp | hp
      · rcases i6 b hh with h | h
        · exact hap p hp b hb h
        · have := ln p hp b hb; omega
      · obtain rfl := List.mem_singleton.1 hp
        have l1 := o1.lt hb
        rcases i6 b hh with h | h
        · have := (ho.lt h).2; omega
        · omega
    have em : (ps ++ [(x, j)]).map sl = ps.map sl ++ [.slice x 15 j] := by simp [sl]
    obtain ⟨H', z⟩ := ih (i + 1) a6 k6 (i : Int) true (ps ++ [(x, j)]) H6 (by omega) (by have := f5.next; have := f6.next; omega) d6 g6 (by rw [em]; exact o6) (by simp [hps]) s6 ha6
    have ui : IntKind.wrap .u32 (i : Int) = (i : Int) := u32_id ⟨by omega, by show (i : Int) < 2 ^ 32; omega⟩
    have ui1 : IntKind.wrap .u32 ((i : Int) + 1) = (i : Int) + 1 := u32_id ⟨by omega, by show (i : Int) + 1 < 2 ^ 32; omega⟩
    have ei1 : IntKind.wrap .i64 ((i : Int) + 1) = (i : Int) + 1 := i64 (by omega) (by omega)
    refine ⟨H', L1_step ?_⟩
    rw [if_pos (by omega), ui, ei1, ui1]
    refine ⟨_, _, _, _, _, c1, _, _, _, _, _, _, _, c2, _, rfl, H4, s4, ?_⟩
    rw [if_pos rfl, if_pos rfl]
    refine ⟨_, rldc' g4 3, ?_⟩
    rw [if_pos rfl]
    refine ⟨_, rldc' g4 2, ?_⟩
    rw [if_pos rfl]
    refine ⟨_, rldc' g4 0, L2_step ?_⟩
    rw [if_neg (by simp), ei1]
    exact ⟨H5, e5, _, _, _, _, c6, z⟩
theorem ok {H : Heap} {key p q : Int} : ∃ H', Cc 6 [.int .u64 key, .int .i64 p, .int .i64 q] H = some (.bool true, H') := by
  obtain ⟨e, em, he⟩ := modN p 8 (by decide) (by decide)
  have en : IntKind.wrap .i64 (2 + (e : Int)) = ((e + 2 : Nat) : Int) := by rw [i64 (by omega) (by omega)]; omega
  have en1 : IntKind.wrap .i64 (((e + 2 : Nat) : Int) - 1) = ((e + 1 : Nat) : Int) := by rw [i64 (by omega) (by omega)]; omega
  have en2 : IntKind.wrap .u64 ((e + 1 : Nat) : Int) = ((e + 1 : Nat) : Int) := u64 (by omega) (by omega)
  obtain ⟨m, mm, hm⟩ := modN q ((e + 1 : Nat) : Int) (by omega) (by omega)
  obtain ⟨H1, e1, n1, g1, kp1⟩ := one H [.int .u64 1, .int .u64 2, .int .u64 key]
  have s1 : Ints .u64 H1 (some ⟨H.next, 0, none⟩) 3 (UNK 1) [1, 2, key] := Sl.ofRow g1 (by omega)
  obtain ⟨D, ka, ca, kk, ck, H2, c2, d2, hD, hka, hca, k2⟩ := F19.ok s1 (by decide) (by decide)
  obtain ⟨H3, c3, g3, n3, k3⟩ := F20.ok (n := 2) key (by decide) H2
  have d3 := d2.new k3
  have dl := d2.lt
  have hkl := d2.kl
  have hcl := d2.cl
  obtain ⟨H', z⟩ := loop (n := e + 2) (m := m) (S := H2.next) (base := H3.next) (key := key) ⟨by omega, by omega⟩ (by omega) (fun b hb => by have := hcl b hb; omega) (fun b hb => by have := hkl b hb; omega) (by omega) (by omega) (by omega) (fun hh => by have := hkl _ hh; omega) (fun hh => by have := hcl _ hh; omega) (e + 2) 0 none 0 0 false [] H3 (by omega) (Nat.le_refl _) d3 g3 ⟨rfl, .inl ⟨rfl, rfl, rfl⟩⟩ rfl ⟨fun j p hp => by simp at hp, fun p hp => by cases hp⟩ (fun p hp => by cases hp)
  refine ⟨H', call ?_⟩
  rw [em, en, en1, en2, mm]
  refine ⟨by omega, H1, e1, _, _, c2, _, _, c3, ?_⟩
  rw [if_neg (by simp)]
  refine L0_step ?_
  rw [if_neg (by simp)]
  exact z
theorem law {H : Heap} {ds : List (List Value)} (h : HoldsAll H [.int .u64, .int .i64, .int .i64] ds) : ∃ H', Cc 6 (vals [.int .u64, .int .i64, .int .i64] ds) H = some (.bool true, H') := by
  obtain ⟨d0, _, rfl, h0, h⟩ := h.cons
  obtain ⟨d1, _, rfl, h1, h⟩ := h.cons
  obtain ⟨d2, _, rfl, h2, h⟩ := h.cons
  obtain rfl := h.nil
  obtain ⟨k, rfl, _⟩ := h0.i
  obtain ⟨p, rfl, _⟩ := h1.i
  obtain ⟨q, rfl, _⟩ := h2.i
  exact ok
end F6
end Go.X
