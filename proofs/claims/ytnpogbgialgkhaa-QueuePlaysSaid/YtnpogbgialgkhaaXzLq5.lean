/- The laws of the queue: order. -/
import Derived.Test.YtnpogbgialgkhaaXzLq4
set_option linter.unusedVariables false
set_option linter.unusedSimpArgs false
namespace Go.X
open Go Go.RowKit Go.Proofs
/-- Rows of bytes. -/
structure Rows2 (H : Heap) (a : Option Addr) (n k : Nat) (l : List (List Int)) : Prop where
  ex : ∃ vs : List (Option Addr × Nat × Nat), Sl H 1 a n k (vs.map fun x => .slice x.1 x.2.1 x.2.2) ∧ vs.length = l.length ∧ ∀ (i : Nat) (x : Option Addr × Nat × Nat) (bs : List Int), vs[i]? = some x → l[i]? = some bs → By H x.1 x.2.1 x.2.2 bs ∧ x.2.1 ≤ 140737488351232
theorem Rows2.ln {H : Heap} {a : Option Addr} {n k : Nat} {l : List (List Int)} (h : Rows2 H a n k l) : n = l.length := by
  obtain ⟨vs, s, e, _⟩ := h.ex
  have := s.len
  simp at this
  omega
theorem Rows2.keep {H H' : Heap} {a : Option Addr} {n k : Nat} {l : List (List Int)} (h : Rows2 H a n k l) (kp : Keep H.next H H') : Rows2 H' a n k l := by
  obtain ⟨vs, s, e, i⟩ := h.ex
  exact ⟨vs, s.keep kp, e, fun j x bs h1 h2 => ⟨(i j x bs h1 h2).1.keep kp, (i j x bs h1 h2).2⟩⟩
theorem Rows2.at {H : Heap} {a : Option Addr} {n k : Nat} {l : List (List Int)} (h : Rows2 H a n k l) {i : Nat} {bs : List Int} (hx : l[i]? = some bs) : ∃ b o ai ni ki, a = some ⟨b, o, none⟩ ∧ ldc H b (o + Int.toNat (i : Int) * 1) = some (.slice ai ni ki) ∧ By H ai ni ki bs ∧ ni ≤ 140737488351232 := by
  have hn := h.ln
  obtain ⟨vs, s, e, it⟩ := h.ex
  have hi := (List.getElem?_eq_some_iff.1 hx).1
  obtain ⟨b, o, rfl⟩ := s.at (by omega)
  have hv : vs[i]? = some vs[i] := List.getElem?_eq_getElem (by omega)
  obtain ⟨h1, h2⟩ := it i _ bs hv hx
  exact ⟨b, o, _, _, _, rfl, by rw [Int.toNat_natCast]; exact s.ld1 (by rw [List.getElem?_map, hv]; rfl), h1, h2⟩
theorem Holds.rows2 {H : Heap} {by_ : Nat} {vs : List Value} (h : Holds H (.slice (.slice (.int .u8) 1) by_) vs) : ∃ a n k l, vs = [.slice a n k] ∧ Rows2 H a n k l ∧ n * by_ ≤ 140737488351232 ∧ ∀ x ∈ l, IsB x := by
  obtain ⟨a, n, k, vss, rfl, s, l, i, b⟩ := h
  have key : ∀ vss : List (List Value), (∀ x ∈ vss, x.length = 1 ∧ Holds H (.slice (.int .u8) 1) x) → ∃ (ws : List (Option Addr × Nat × Nat)) (ls : List (List Int)), vss.flatten = ws.map (fun x => Value.slice x.1 x.2.1 x.2.2) ∧ ws.length = ls.length ∧ (∀ (i : Nat) (x : Option Addr × Nat × Nat) (bs : List Int), ws[i]? = some x → ls[i]? = some bs → By H x.1 x.2.1 x.2.2 bs ∧ x.2.1 ≤ 140737488351232) ∧ ∀ x ∈ ls, IsB x := by
    intro vss
    induction vss with
    | nil => exact fun _ => ⟨[], [], rfl, rfl, by simp, by simp⟩
    | cons v vss ih =>
      intro h
      obtain ⟨ws, ls, e, e2, it, w⟩ := ih fun x hx => h x (by simp [hx])
      obtain ⟨a, n, k, xs, rfl, s, b, wx⟩ := (h v (by simp)).2.ints
      refine ⟨(a, n, k) :: ws, xs :: ls, by rw [List.flatten_cons, e]; rfl, by simp [e2], fun i x bs h1 h2 => ?_, fun y hy => ?_⟩
      · cases i with
        | zero =>
          simp only [List.getElem?_cons_zero, Option.some.injEq] at h1 h2
          subst h1 h2
          exact ⟨s, by simpa using b⟩
        | succ i => exact it i x bs (by simpa using h1) (by simpa using h2)
      · rcases List.mem_cons.1 hy with rfl | hy
        · exact IsB.of wx
        · exact w y hy
  obtain ⟨ws, ls, e, e2, it, w⟩ := key vss i
  rw [e] at s
  exact ⟨a, n, k, ls, rfl, ⟨ws, s, e2, it⟩, b, w⟩
/-- The rows put in so far, numbered. -/
def nmb (l : List (List Int)) (s j : Nat) : List (Int × List Int) := (List.range' s j).map fun (i : Nat) => ((i : Int), l.getD i [])
theorem nmb_len (l : List (List Int)) (s j : Nat) : (nmb l s j).length = j := by simp [nmb]
theorem nmb_succ (l : List (List Int)) (j : Nat) : nmb l 0 (j + 1) = nmb l 0 j ++ [((j : Int), l.getD j [])] := by
  unfold nmb; rw [List.range'_1_concat, List.map_append]; simp
theorem nmb_cons (l : List (List Int)) (s j : Nat) : nmb l s (j + 1) = ((s : Int), l.getD s []) :: nmb l (s + 1) j := by
  unfold nmb; rw [List.range'_succ, List.map_cons]
namespace F5
variable {a1 : Option Addr} {n1 k1 : Nat} {l : List (List Int)} {p : Nat} {most : Nat}
theorem l2 {G : Heap} {base : Nat} (hs : Rows2 G a1 n1 k1 l) (hb : base ≤ G.next) (lost : Int) {t : Nat} (ht : t ≤ n1) (h32 : t ≤ 32) (hl : ∀ x ∈ l, x.length ≤ 200) : ∀ (d j : Nat) (H : Heap), j + d = t → Keep G.next G H → QM G.next H p most lost (nmb l j d) →
    ∃ H', L2 a1 n1 k1 (some ⟨p, 0, none⟩) (t : Int) (t : Int) (j : Int) H (.bool true, H') := by
  intro d
  induction d with
  | zero =>
    intro j H hj hk hq
    have c2 := F18.outM hq 0 (.inr (by simp [nmb_len]))
    obtain ⟨H3, c3, _⟩ := F12.ok H
    refine ⟨H3, L2_step ?_⟩
    rw [if_neg (by omega)]
    refine ⟨_, _, _, _, _, c2, ?_⟩
    rw [if_neg (by simp)]
    refine ⟨_, _, F19.okM hq, ?_⟩
    rw [if_pos (by simp [nmb_len])]
    exact ⟨_, _, c3, rfl⟩
  | succ d ih =>
    intro j H hj hk hq
    have hn := hs.ln
    have hx : l[j]? = some (l.getD j []) := by simp [List.getD, List.getElem?_eq_getElem (show j < l.length by omega)]
    obtain ⟨a2, k2, H2, c2, o2, g2⟩ := F16.okM hq (by rw [nmb_len]; omega)
    have hlen : ((nmb l j (d + 1)).length : Int) = IntKind.wrap .i64 ((t : Int) - (j : Int)) := by rw [nmb_len, i64 (by omega) (by omega)]; omega
    obtain ⟨b2, p2, rfl⟩ := o2.sl.at (by rw [nmb_len]; omega)
    have hk2 := hk.trans (g2.weak hk.next)
    have q2 := hq.keep g2
    have hm : (nmb l j (d + 1))[0]? = some ((j : Int), l.getD j []) := by rw [nmb_cons]; rfl
    have hbl : (l.getD j []).length ≤ 200 := hl _ (List.mem_of_getElem? hx)
    obtain ⟨a3, k3, H3, c3, s3, q3, g3⟩ := F18.okM q2 (i := 0) hm (by omega) (by rw [nmb_len]; omega)
    rw [nmb_cons, List.eraseIdx_cons_zero] at q3
    have hk3 := hk2.trans g3
    obtain ⟨b1, o1, ai, ni, ki, rfl, r1, r2, r3⟩ := (hs.keep hk3).at hx
    obtain ⟨H', z⟩ := ih (j + 1) H3 (by omega) hk3 q3
    refine ⟨H', L2_step ?_⟩
    rw [if_pos (by omega)]
    refine ⟨_, _, _, _, c2, ?_⟩
    rw [if_pos hlen]
    refine ⟨b2, p2, rfl, by omega, by rw [nmb_len]; omega, _, by simpa using Ints.get o2.sl (i := 0) (by rw [List.getElem?_map, hm]; rfl), ?_⟩
    refine L3_step ?_
    rw [if_neg (by simp)]
    refine ⟨_, _, _, _, _, c3, ?_⟩
    rw [if_pos rfl]
    refine ⟨_, s3.str, b1, o1, rfl, by omega, by omega, _, _, _, r1, _, r2.str, ?_⟩
    refine L4_step ?_
    rw [if_neg (by simp), i64 (by omega) (by omega)]
    exact_mod_cast z
theorem l0 {G : Heap} (hs : Rows2 G a1 n1 k1 l) (h100 : n1 ≤ 100) (hm1 : 1 ≤ most) (hm : most ≤ 32) : ∀ (d j : Nat) (H : Heap), j + d = n1 → Keep G.next G H → QM G.next H p most ((j - most : Nat) : Int) (nmb l 0 (min j most)) → (∀ i, i < j → (l.getD i []).length ≤ 200) →
    ∃ H', L0 (most : Int) a1 n1 k1 (some ⟨p, 0, none⟩) a1 n1 k1 (n1 : Int) (j : Int) H (.bool true, H') := by
  intro d
  induction d with
  | zero =>
    intro j H hj hk hq h2
    have e : j = n1 := by omega
    subst e
    have hn := hs.ln
    have e1 : imin (most : Int) (j : Int) = ((min j most : Nat) : Int) := by unfold imin; split <;> omega
    have e2 : IntKind.wrap .i64 ((j : Int) - ((min j most : Nat) : Int)) = ((j - most : Nat) : Int) := by rw [i64 (by omega) (by omega)]; omega
    obtain ⟨H', z⟩ := l2 (base := G.next) (t := min j most) hs (Nat.le_refl _) _ (by omega) (by omega) (fun x hx => by
      obtain ⟨i, hi, rfl⟩ := List.getElem_of_mem hx
      have := h2 i (by omega)
      rwa [List.getD, List.getElem?_eq_getElem hi] at this) (min j most) 0 H (by omega) hk hq
    refine ⟨H', L0_step ?_⟩
    rw [if_neg (by omega)]
    refine ⟨_, _, F19.okM hq, ?_⟩
    rw [e1, nmb_len, if_pos rfl]
    refine ⟨_, _, F20.okM hq, L1_step ?_⟩
    rw [if_neg (by rw [e2]; simp)]
    exact z
  | succ d ih =>
    intro j H hj hk hq h2
    have hn := hs.ln
    have hx : l[j]? = some (l.getD j []) := by simp [List.getD, List.getElem?_eq_getElem (show j < l.length by omega)]
    obtain ⟨b1, o1, ai, ni, ki, rfl, r1, r2, r3⟩ := (hs.keep hk).at hx
    have hl := r2.ln
    have fin : ∀ (v : Bool) (H2 : Heap), Cq 14 [.pointer (some ⟨p, 0, none⟩), .int .i64 (j : Int), .slice ai ni ki] H = some (.bool v, H2) → (v == decide ((j : Int) < (most : Int))) = true → Keep G.next H H2 → QM G.next H2 p most ((j + 1 - most : Nat) : Int) (nmb l 0 (min (j + 1) most)) → ni ≤ 200 →
        ∃ H', L0 (most : Int) (some ⟨b1, o1, none⟩) n1 k1 (some ⟨p, 0, none⟩) (some ⟨b1, o1, none⟩) n1 k1 (n1 : Int) (j : Int) H (.bool true, H') := by
      intro v H2 c hv g q h200
      obtain ⟨H', z⟩ := ih (j + 1) H2 (by omega) (hk.trans g) q fun i hi => by
        by_cases h : i = j
        · subst h; omega
        · exact h2 i (by omega)
      refine ⟨H', L0_step ?_⟩
      rw [if_pos (by omega)]
      refine ⟨b1, o1, rfl, by omega, by omega, _, _, _, r1, ?_⟩
      rw [if_neg (by omega)]
      refine ⟨_, _, c, ?_⟩
      rw [if_pos hv, i64 (by omega) (by omega)]
      exact_mod_cast z
    by_cases h200 : (ni : Int) > 200
    · obtain ⟨H3, c3, _⟩ := F12.ok H
      refine ⟨H3, L0_step ?_⟩
      rw [if_pos (by omega)]
      refine ⟨b1, o1, rfl, by omega, by omega, _, _, _, r1, ?_⟩
      rw [if_pos h200]
      exact ⟨_, _, c3, rfl⟩
    · by_cases hf : j < most
      · have e1 : min j most = j := by omega
        have e2 : j - most = 0 := by omega
        rw [e1, e2] at hq
        obtain ⟨H2, c2, q2, g2⟩ := F14.okM (j : Int) hq r2 (by omega) (by omega) (by rw [nmb_len]; omega)
        refine fin true H2 c2 (by rw [decide_eq_true (by omega)]; rfl) g2 ?_ (by omega)
        rw [show min (j + 1) most = j + 1 by omega, show j + 1 - most = 0 by omega, nmb_succ]
        exact q2
      · obtain ⟨H2, c2, q2, g2⟩ := F14.fullM (a2 := ai) (n2 := ni) (k2 := ki) (j : Int) hq (by rw [nmb_len]; omega)
        refine fin false H2 c2 (by rw [decide_eq_false (by omega)]; rfl) g2 ?_ (by omega)
        have e : imin (IntKind.wrap .i64 (((j - most : Nat) : Int) + 1)) 1000000 = ((j + 1 - most : Nat) : Int) := by
          rw [i64 (by omega) (by omega)]
          unfold imin; split <;> omega
        rw [e] at q2
        rwa [show min (j + 1) most = min j most by omega]
theorem ok {H : Heap} (hs : Rows2 H a1 n1 k1 l) (m : Int) : ∃ H', Cq 5 [.int .i64 m, .slice a1 n1 k1] H = some (.bool true, H') := by
  obtain ⟨r, e, hr⟩ := modN m 32 (by decide) (by decide)
  have e2 : IntKind.wrap .i64 (1 + IntKind.wrap .i64 (Int.tmod (IntKind.wrap .u64 m) 32)) = ((1 + r : Nat) : Int) := by rw [e, i64 (by omega) (by omega)]; omega
  have e3 : imax 1 (imin ((1 + r : Nat) : Int) 32) = ((1 + r : Nat) : Int) := by
    have : imin ((1 + r : Nat) : Int) 32 = ((1 + r : Nat) : Int) := by unfold imin; split <;> omega
    rw [this]; unfold imax; split <;> omega
  obtain ⟨H1, p, c1, q1, k1'⟩ := F13.okM ((1 + r : Nat) : Int) H
  rw [e3] at q1
  by_cases h : (n1 : Int) > 100
  · obtain ⟨H', c, _⟩ := F12.ok H1
    refine ⟨H', call ?_⟩
    rw [e2]
    refine ⟨_, _, c1, ?_⟩
    rw [if_pos h]
    exact ⟨_, _, c, rfl⟩
  · obtain ⟨H', z⟩ := l0 (p := p) (most := 1 + r) hs (by omega) (by omega) (by omega) n1 0 H1 (by omega) k1' (by simpa [nmb] using q1) (fun i hi => by omega)
    refine ⟨H', call ?_⟩
    rw [e2]
    refine ⟨_, _, c1, ?_⟩
    rw [if_neg h]
    exact z
theorem law {H : Heap} {ds : List (List Value)} (h : HoldsAll H [.int .i64, .slice (.slice (.int .u8) 1) 24] ds) : ∃ H', Cq 5 (vals [.int .i64, .slice (.slice (.int .u8) 1) 24] ds) H = some (.bool true, H') := by
  obtain ⟨d0, _, rfl, h0, h⟩ := h.cons
  obtain ⟨d1, _, rfl, h1, h⟩ := h.cons
  obtain rfl := h.nil
  obtain ⟨m, rfl, _⟩ := h0.i
  obtain ⟨a, n, k, l, rfl, s, b, w⟩ := h1.rows2
  exact ok s m
end F5
end Go.X
