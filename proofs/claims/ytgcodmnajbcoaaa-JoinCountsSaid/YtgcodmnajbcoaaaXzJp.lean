/- The law JoinKeys. -/
import Derived.Test.YtgcodmnajbcoaaaXzPc
import Derived.Test.YtgcodmnajbcoaaaXzTf5
set_option linter.unusedVariables false
set_option linter.unusedSimpArgs false
set_option maxRecDepth 20000
namespace Go.X
open Go Go.RowKit Go.Proofs
theorem takeV_gen {keys counts : List Int} {key : Int} {v : RQ} {l : List C5} {N : Nat} (hm : mayR v) (ha : U32 v.a) (hc : U32 v.c) (hN : v.n = (N : Int)) (hl : N < keys.length) :
    (takeV keys counts (sealed key (encR v)) l).1.2 = (if nb (tagB (keys.getD N 0) (encR v)) ≠ nb (tagB key (encR v)) then 10 else if v.c ≤ counts.getD N 0 then 8 else 0) ∧
    (takeV keys counts (sealed key (encR v)) l).2 = (if nb (tagB (keys.getD N 0) (encR v)) ≠ nb (tagB key (encR v)) then counts else if v.c ≤ counts.getD N 0 then counts else counts.set N v.c) := by
  have eN : v.n.toNat = N := by omega
  rw [F22.takeV_eq, decR_ask key hm ha hc]
  simp only
  rw [eN, sealed_take, if_neg (fun c => c rfl), if_neg (by omega)]
  by_cases h : nb (tagB (keys.getD N 0) (encR v)) ≠ nb (tagB key (encR v))
  · rw [if_pos h, if_pos h, if_pos h]; exact ⟨rfl, rfl⟩
  · rw [if_neg h, if_neg h, if_neg h]
    by_cases h2 : v.c ≤ counts.getD N 0
    · rw [if_pos h2, if_pos h2, if_pos h2]; exact ⟨rfl, rfl⟩
    · rw [if_neg h2, if_neg h2, if_neg h2]; exact ⟨rfl, rfl⟩
namespace F5
theorem ok {H : Heap} {k0 k1 a : Int} (ha : U32 a) : ∃ H', Cc 5 [.int .u64 k0, .int .u64 k1, .int .u32 a] H = some (.bool true, H') := by
  have hv : mayR ⟨0, 1, a, 1, 0⟩ := ⟨(by decide : inP 0 0 15), (by decide : inP 1 0 15), (by decide : (0 : Int) ≠ 1)⟩
  have h1 : U32 1 := ⟨by decide, by decide⟩
  generalize hve : (⟨0, 1, a, 1, 0⟩ : RQ) = v at hv
  have vn : v.n = ((0 : Nat) : Int) := by rw [← hve]; rfl
  have vc : v.c = 1 := by rw [← hve]
  have va : U32 v.a := by rw [← hve]; exact ha
  have vagg : v.agg = .agg #[.int .i64 0, .int .i64 1, .int .u32 a, .int .u32 1, .int .u32 0] := by rw [← hve]
  have hcc : U32 v.c := by rw [vc]; exact h1
  have ex : ∀ k, askB k v = sealed k (encR v) := fun k => if_pos hv
  have el : ∀ k, (sealed k (encR v)).length = 15 := fun k => by rw [sealed_len, encR_len]
  have eb : ∀ k, IsB (sealed k (encR v)) := fun k => sealed_isB (encR_isB hv)
  obtain ⟨H1, e1, n1, g1, kp1⟩ := one H [.int .u64 k0, .int .u64 k1]
  have s1 : Ints .u64 H1 (some ⟨H.next, 0, none⟩) 2 (UNK 1) [k0, k1] := Sl.ofRow g1 (by omega)
  obtain ⟨D, ka, ca, kk, ck, H2, c2, d2, hD, hka, hca, k2⟩ := F19.ok s1 (by decide) (by decide)
  obtain ⟨x3, j3, H3, c3, o3, k3⟩ := F9.ok k1 v H2
  rw [ex, el, if_pos hv] at c3
  rw [ex, el] at o3
  obtain ⟨H4, c4, k4⟩ := F14.ok o3.sl (eb k1) (by omega)
  rw [decR_ask k1 hv va hcc] at c4
  simp only at c4
  obtain ⟨H6, s6, g6, k6, n6⟩ := fill H4 rq0.cells (⟨v.n, v.p, v.a, v.c, nb (tagB k1 (encR v))⟩ : RQ).cells rfl
  have k46 := k4.th k6
  have n4 := k4.next
  obtain ⟨x7, j7, H7, c7, o7, k7⟩ := F10.ok k0 v H6
  rw [ex, el, if_pos hv] at c7
  rw [ex, el] at o7
  obtain ⟨H8, c8, k8⟩ := F15.ok o7.sl (eb k0) (by omega)
  rw [decR_ask k0 hv va hcc] at c8
  simp only at c8
  obtain ⟨H10, s10, g10, k10, n10⟩ := fill H8 rq0.cells (⟨v.n, v.p, v.a, v.c, nb (tagB k0 (encR v))⟩ : RQ).cells rfl
  have n7 := k7.next
  have n8 := k8.next
  have k610 := k7.th (k8.th k10)
  have o3' : OwnI .u8 H2.next H10 x3 15 j3 (sealed k1 (encR v)) := (o3.keep k46).keep k610
  have o7' : OwnI .u8 H6.next H10 x7 15 j7 (sealed k0 (encR v)) := (o7.keep k8).keep k10
  have d10 := ((d2.new k3).new k46).new k610
  have n3 := k3.next
  have hcl := d2.cl
  have g6' : H10.get H4.next = .row (⟨v.n, v.p, v.a, v.c, nb (tagB k1 (encR v))⟩ : RQ).cells true := by rw [k610.get _ (by omega)]; exact g6
  obtain ⟨g11, H11, c11, ok11, v11, _, d11, f11⟩ := F22.ok (l := []) (a2 := none) (n2 := 0) (k2 := 0) d10 o3'.sl (eb k1) (by omega) ⟨rfl, .inl ⟨rfl, rfl, rfl⟩⟩ (by omega) (fun b hb => absurd hb In1.none)
  obtain ⟨t1, t2⟩ := takeV_gen (keys := [k0, k1]) (counts := List.replicate 2 0) (key := k1) (l := []) hv va hcc vn (by simp)
  obtain ⟨H13, s13, g13, k13, n13⟩ := fill H11 gr0.cells g11.cells rfl
  have n11 := f11.next
  have f13 : Chg (In1 ca) H10 H13 := f11.trans (k13.chg0 (S := In1 ca)) fun _ _ h => h
  have n613 := k610.next
  have hx7 : ∀ b, In1 x7 b → ¬In1 ca b := fun b hb hh => by have := (o7.lt hb).1; have := hcl b hh; omega
  have o7'' := o7'.chg f13 hx7
  have d13 := d11.new k13
  obtain ⟨g14, H14, c14, ok14, v14, _, d14, f14⟩ := F22.ok (l := []) (a2 := none) (n2 := 0) (k2 := 0) d13 o7''.sl (eb k0) (by omega) ⟨rfl, .inl ⟨rfl, rfl, rfl⟩⟩ (by omega) (fun b hb => absurd hb In1.none)
  obtain ⟨H16, s16, g16, k16, n16⟩ := fill H14 gr0.cells g14.cells rfl
  have f16 : Chg (In1 ca) H10 H16 := (f13.trans f14 fun _ _ h => h).trans (k16.chg0 (S := In1 ca)) fun _ _ h => h
  have l6 : H16.get H4.next = .row (⟨v.n, v.p, v.a, v.c, nb (tagB k1 (encR v))⟩ : RQ).cells true := by
    rw [f16.get _ (by omega) fun hh => by have := hcl _ hh; omega]; exact g6'
  have l10 : H16.get H8.next = .row (⟨v.n, v.p, v.a, v.c, nb (tagB k0 (encR v))⟩ : RQ).cells true := by
    rw [f16.get _ (by omega) fun hh => by have := hcl _ hh; omega]; exact g10
  obtain ⟨H17, c17, _⟩ := F8.ok H16
  refine ⟨H17, call ⟨H1, e1, _, _, c2, _, _, _, _, _, by rw [← vagg]; exact c3, _, _, _, _, _, _, _, c4, _, rfl, H6, s6, ?_⟩⟩
  rw [if_neg (by simp), if_pos rfl]
  refine L0_step ?_
  rw [if_neg (by decide)]
  refine ⟨_, _, _, _, _, by rw [← vagg]; exact c7, _, _, _, _, _, _, _, c8, _, rfl, H10, s10, _, _, _, _, _, _, _, _, _, c11, _, rfl, H13, s13, _, _, _, _, _, _, _, _, _, c14, _, rfl, H16, s16, _, rldc' l6 4, _, rldc' l10 4, ?_⟩
  by_cases h : nb (tagB k1 (encR v)) = nb (tagB k0 (encR v))
  · have e0 : ¬nb (tagB (([k0, k1] : List Int).getD 0 0) (encR v)) ≠ nb (tagB k1 (encR v)) := fun c => c h.symm
    rw [if_neg e0, if_neg (by rw [vc]; decide)] at t1 t2
    obtain ⟨u1, u2⟩ := takeV_gen (keys := [k0, k1]) (counts := (takeV [k0, k1] (List.replicate 2 0) (sealed k1 (encR v)) []).2) (key := k0) (l := []) hv va hcc vn (by simp)
    rw [if_neg (fun c => c rfl), if_pos (by rw [t2, vc]; decide)] at u1
    rw [if_pos h, if_pos t1, if_pos u1]
    exact ⟨_, _, c17, rfl⟩
  · have e0 : nb (tagB (([k0, k1] : List Int).getD 0 0) (encR v)) ≠ nb (tagB k1 (encR v)) := fun c => h c.symm
    rw [if_pos e0] at t1 t2
    obtain ⟨u1, u2⟩ := takeV_gen (keys := [k0, k1]) (counts := (takeV [k0, k1] (List.replicate 2 0) (sealed k1 (encR v)) []).2) (key := k0) (l := []) hv va hcc vn (by simp)
    rw [if_neg (fun c => c rfl), if_neg (by rw [t2, vc]; decide)] at u1
    rw [if_neg h, if_pos t1, if_pos u1]
    exact ⟨_, _, c17, rfl⟩
theorem law {H : Heap} {ds : List (List Value)} (h : HoldsAll H [.int .u64, .int .u64, .int .u32] ds) : ∃ H', Cc 5 (vals [.int .u64, .int .u64, .int .u32] ds) H = some (.bool true, H') := by
  obtain ⟨d0, _, rfl, h0, h⟩ := h.cons
  obtain ⟨d1, _, rfl, h1, h⟩ := h.cons
  obtain ⟨d2, _, rfl, h2, h⟩ := h.cons
  obtain rfl := h.nil
  obtain ⟨k0, rfl, _⟩ := h0.i
  obtain ⟨k1, rfl, _⟩ := h1.i
  obtain ⟨a, rfl, ha⟩ := h2.i
  exact ok (u32_wf ha)
end F5
end Go.X
