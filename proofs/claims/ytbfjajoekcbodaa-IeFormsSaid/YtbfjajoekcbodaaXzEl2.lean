/- The law of the elements' forms. -/
import Derived.Test.YtbfjajoekcbodaaXzEr2
set_option linter.unusedVariables false
set_option linter.unusedSimpArgs false
set_option maxRecDepth 20000
namespace Go.X
open Go Go.RowKit Go.Proofs
namespace F4
theorem l0 {G : Heap} {a : Option Addr} {n k : Nat} {kd : Int} {l : List Ie} (hs : Ies G a n k l) (hn : n ≤ 20) (hl : ∀ e ∈ l, IeOk G e) : ∀ (rest : List Ie) (j : Nat) (H : Heap), l.drop j = rest → j + rest.length = n → Keep G.next G H →
    ∃ H', L0 a n k kd a n k (n : Int) (j : Int) H (.bool true, H') := by
  have hc := hs.cnt Ie.z (by decide)
  intro rest
  induction rest with
  | nil =>
    intro j H hd hj hk
    simp only [List.length_nil] at hj
    have s0 := hs.keep hk
    have hl0 : ∀ e ∈ l, IeOk H e := fun e he => (hl e he).keep hk
    obtain ⟨a8, k8', H8, c8, o8, k8⟩ := F16.ok s0 hl0 (by omega)
    obtain ⟨a9, k9', H9, c9, o9, k9⟩ := F20.ok (s0.keep k8) (fun e he => (hl0 e he).keep k8)
    have k89 := k8.trans (k9.weak k8.next)
    obtain ⟨e10, H10, c10, k10, h10, v10⟩ := F21.ok (s0.keep k89) (by omega) (fun e he => (hl0 e he).keep k89) kd
    obtain ⟨H12, s12, g12, k12, n12⟩ := scratchE (H := H10) (e := e10)
    have k012 := (k89.trans (k10.weak k89.next)).trans (k12.weak (k89.trans (k10.weak k89.next)).next)
    obtain ⟨e13, H13, c13, k13, h13, v13⟩ := F22.ok (s0.keep k012) (by omega) (fun e he => (hl0 e he).keep k012) kd
    obtain ⟨H15, s15, g15, k15, n15⟩ := scratchE (H := H13) (e := e13)
    have n13 := k13.next
    have k1315 := k13.trans (k15.weak k13.next)
    have k1015 := k12.trans (k1315.weak k12.next)
    have g1215 : H15.get H10.next = .row e10.cells true := by rw [k1315.get _ (by omega)]; exact g12
    have kk9 := k10.trans (k1015.weak k10.next)
    have o8' : Ints .u8 H15 a8 _ k8' _ := (o8.sl.keep k9).keep kk9
    have o9' : Ints .u8 H15 a9 _ k9' _ := o9.sl.keep kk9
    obtain ⟨H16, c16, k16⟩ := F19.ok (h10.keep k1015) (h13.keep k15)
    obtain ⟨H17, c17, k17⟩ := F15.ok H16
    refine ⟨H17, L0_step ?_⟩
    rw [if_neg (by omega)]
    refine ⟨_, _, _, _, _, c8, _, _, _, _, _, c9, _, _, _, _, _, _, _, _, _, c10, _, rfl, H12, s12, _, _, _, _, _, _, _, _, _, c13, _, rfl, H15, s15, _, o8'.str, _, o9'.str, ?_⟩
    rw [if_pos rfl, if_pos rfl]
    refine ⟨_, _, _, _, _, _, _, rldAll g1215, _, _, _, _, _, _, _, rldAll g15, _, _, c16, ?_⟩
    rw [if_pos (by rw [v10, v13]; simp), if_pos (by simp)]
    exact ⟨_, _, c17, rfl⟩
  | cons e rest ih =>
    intro j H hd hj hk
    simp only [List.length_cons] at hj
    have hx := drop_get hd
    have hmem := List.mem_of_getElem? hx
    obtain ⟨b, o, rfl⟩ := hs.at (by omega)
    have he := (hl e hmem).keep hk
    have ra := (hs.keep hk).recs Ie.z hx
    obtain ⟨H2, s2, g2, k2, n2⟩ := scratchE (H := H) (e := e)
    have he2 := he.keep k2
    obtain ⟨H3, c3, k3⟩ := F14.ok he2
    obtain ⟨H4, c4, k4⟩ := F18.ok (he2.keep k3)
    have k24 := k3.trans (k4.weak k3.next)
    have k04 := k2.trans (k24.weak k2.next)
    have n3 := k3.next
    have n24 := k24.next
    have gg : ∀ {X}, Keep H2.next H2 X → X.get H.next = .row e.cells true := fun kk => by rw [kk.get _ (by omega)]; exact g2
    have l0 : 0 < l.length := by omega
    obtain ⟨e0, hx0⟩ : ∃ e0, l[0]? = some e0 := ⟨l[0], List.getElem?_eq_getElem l0⟩
    have he0 := (hl e0 (List.mem_of_getElem? hx0)).keep hk
    have r0 : ∀ {X}, Keep H.next H X → ldAll X b o e0.cells := fun kk => by
      have := ((hs.keep hk).keep kk).recs Ie.z (i := 0) hx0
      simpa using this
    obtain ⟨H5, c5, k5⟩ := F17.ok (he2.keep k24) (he0.keep k04)
    have k25 := k24.trans (k5.weak k24.next)
    have k05 := k2.trans (k25.weak k2.next)
    obtain ⟨H6, c6, k6⟩ := F19.ok (he2.keep k25) (he0.keep k05)
    have k26 := k25.trans (k6.weak k25.next)
    have k06 := k2.trans (k26.weak k2.next)
    obtain ⟨H7, c7, k7⟩ := F17.ok (he.keep k06) (he2.keep k26)
    have k07 := k06.trans (k7.weak k06.next)
    have rj := ((hs.keep hk).keep k06).recs Ie.z hx
    obtain ⟨H', z⟩ := ih (j + 1) H7 (drop_next hd) (by omega) (hk.trans (k07.weak hk.next))
    refine ⟨H', L0_step ?_⟩
    rw [if_pos (by omega)]
    refine ⟨b, o, rfl, by omega, by omega, _, _, _, _, _, _, _, ra, _, rfl, H2, s2, _, _, _, _, _, _, _, rldAll g2, _, _, c3, _, _, _, _, _, _, _, rldAll g2, _, _, c4, ?_⟩
    rw [if_pos (by simp)]
    refine ⟨_, _, _, _, _, _, _, rldAll (gg k24), b, o, rfl, by omega, by omega, _, _, _, _, _, _, _, r0 k04, _, _, c5, _, _, _, _, _, _, _, rldAll (gg k24), by omega, by omega, _, _, _, _, _, _, _, r0 k04, _, _, c6, ?_⟩
    rw [if_pos (by simp)]
    refine ⟨by omega, by omega, _, _, _, _, _, _, _, rj, _, _, _, _, _, _, _, rldAll (gg k26), _, _, c7, rldAll (gg k3), rldAll (gg k25), r0 k05, L1_step ?_⟩
    rw [if_neg (by simp), i64 (by omega) (by omega)]
    exact_mod_cast z
theorem ok {H : Heap} {a : Option Addr} {n k : Nat} {l : List Ie} (hs : Ies H a n k l) (hn : n ≤ 3000000000000) (hl : ∀ e ∈ l, IeOk H e) (kd : Int) : ∃ H', Ce 4 [.slice a n k, .int .i64 kd] H = some (.bool true, H') := by
  have hc := hs.cnt Ie.z (by decide)
  obtain ⟨t, H1, c1, k1, ht⟩ := F13.ok hs hn
  by_cases h0 : t > 0
  · obtain ⟨H2, c2, k2⟩ := F15.ok H1
    refine ⟨H2, call ⟨_, _, c1, ?_⟩⟩
    rw [if_pos h0]
    exact ⟨_, _, c2, rfl⟩
  · have hli : lightP l := Decidable.byContradiction fun c => h0 (ht.2 c)
    have n20 := hli.1
    obtain ⟨H', z⟩ := l0 (kd := kd) (hs.keep k1) (by omega) (fun e he => (hl e he).keep k1) l 0 H1 rfl (by omega) (Keep.refl _ _)
    refine ⟨H', call ⟨_, _, c1, ?_⟩⟩
    rw [if_neg h0]
    exact z
theorem law {H : Heap} {ds : List (List Value)} (h : HoldsAll H [.slice TIe 56, .int .i64] ds) : ∃ H', Ce 4 (vals [.slice TIe 56, .int .i64] ds) H = some (.bool true, H') := by
  obtain ⟨d0, _, rfl, h0, h⟩ := h.cons
  obtain ⟨d1, _, rfl, h1, h⟩ := h.cons
  obtain rfl := h.nil
  obtain ⟨a, n, k, l, rfl, hs, hc, hl, hb⟩ := Holds.recs (f := Ie.cells) (Q := IeOk H) (fun _ h => ieOf h) h0
  obtain ⟨kd, rfl, _⟩ := h1.i
  exact ok hs (by omega) hl kd
end F4
end Go.X
