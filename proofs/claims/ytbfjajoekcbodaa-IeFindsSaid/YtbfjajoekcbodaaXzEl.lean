/- The laws of the elements: what a kind has not; what is found. -/
import Derived.Test.YtbfjajoekcbodaaXzEr
import Derived.Test.YtbfjajoekcbodaaXzRd
import Derived.Test.YtbfjajoekcbodaaXzTeL1
import Derived.Test.YtbfjajoekcbodaaXzTeL3
set_option linter.unusedVariables false
set_option linter.unusedSimpArgs false
set_option maxRecDepth 20000
namespace Go.X
open Go Go.RowKit Go.Proofs
abbrev TIe : Ty := .strct (.pair (.int .i64) (.pair (.int .i64) (.pair (.int .i64) (.pair (.int .i64) (.pair (.slice (.int .i64) 8) .unit)))))
theorem ieOf {H : Heap} {vs : List Value} (h : Holds H TIe vs) : ∃ e : Ie, vs = e.cells ∧ IeOk H e := by
  obtain ⟨_, _, rfl, ⟨a, rfl, _⟩, _, _, rfl, ⟨b, rfl, _⟩, _, _, rfl, ⟨c, rfl, _⟩, _, _, rfl, ⟨d, rfl, _⟩, _, _, rfl, hs, rfl⟩ := h
  obtain ⟨x, n, k, xs, rfl, s, l, w⟩ := hs.ints
  exact ⟨⟨⟨a, b, c, d, xs⟩, x, n, k⟩, rfl, ⟨s, show n ≤ 17592186044416 by omega⟩⟩
namespace F3
theorem l1 {H : Heap} {p q : Nat} {e f : Ie} (hp : H.get p = .row e.cells true) (hq : H.get q = .row f.cells true) (hpl : p < H.next) (hql : q < H.next) (he : IeOk H e) (hf : IeOk H f) (hmf : ¬mayE f.v) (hne : e.v ≠ f.v) : ∃ H', L1 p 0 q 0 H (.bool true, H') := by
  have k1 : Keep H.next H (H.push (.row f.cells true)) := Keep.push _ (Nat.le_refl _)
  obtain ⟨a', k', H2, c2, o2, k2⟩ := F16.ok (Ies.one H f true) (l := [f]) (fun x hx => by rw [List.mem_singleton.1 hx]; exact hf.keep k1) (by omega)
  have hno : ¬okL ([f].map Ie.v) := fun c => hmf (c.2 f.v (by simp))
  rw [if_neg hno] at c2
  have k02 := k1.trans (k2.weak (by simp))
  have n2 := k02.next
  have q2 : H2.get q = .row f.cells true := by rw [k02.get _ hql]; exact hq
  obtain ⟨H3, c3, k3⟩ := F14.ok (hf.keep k02)
  have k03 := k02.trans (k3.weak n2)
  have n3 := k03.next
  obtain ⟨H4, c4, k4⟩ := F17.ok (he.keep k03) (hf.keep k03)
  have k04 := k03.trans (k4.weak n3)
  have n4 := k04.next
  obtain ⟨H5, c5, k5⟩ := F17.ok (he.keep k04) (he.keep k04)
  obtain ⟨H6, c6, k6⟩ := F15.ok H5
  have gp : ∀ {X}, Keep H.next H X → X.get p = .row e.cells true := fun kk => by rw [kk.get _ hpl]; exact hp
  have gq : ∀ {X}, Keep H.next H X → X.get q = .row f.cells true := fun kk => by rw [kk.get _ hql]; exact hq
  refine ⟨H6, L1_step ⟨_, _, _, _, _, _, _, rldAll hq, _, rfl, _, _, _, _, _, c2, _, _, _, _, _, _, _, rldAll q2, _, _, c3, ?_⟩⟩
  rw [if_neg (by simpa using hmf), if_pos rfl]
  refine ⟨_, _, _, _, _, _, _, rldAll (gp k03), _, _, _, _, _, _, _, rldAll (gq k03), _, _, c4, ?_⟩
  rw [if_neg (by simpa using hne)]
  refine ⟨_, _, _, _, _, _, _, rldAll (gp k04), _, _, _, _, _, _, _, rldAll (gp k04), _, _, c5, ?_⟩
  rw [if_pos (by simp)]
  exact ⟨_, _, c6, rfl⟩
theorem awake {H : Heap} {p : Nat} {x : Int} : ∃ H', L0 x p 0 true H (.bool true, H') := by
  obtain ⟨H6, c6, k6⟩ := F15.ok H
  refine ⟨H6, L0_step ?_⟩
  rw [if_pos rfl]
  exact ⟨_, _, c6, rfl⟩
theorem l0 {H : Heap} {p : Nat} {e : Ie} {x : Int} (hp : H.get p = .row e.cells true) (hpl : p < H.next) (he : IeOk H e) (hm : mayE e.v) (hx : x ≠ 0) : ∃ H', L0 x p 0 false H (.bool true, H') := by
  obtain ⟨H3, s3, g3, k3, n3⟩ := scratchE (H := H) (e := e)
  have hp3 : H3.get p = .row e.cells true := by rw [k3.get _ hpl]; exact hp
  have he3 := he.keep k3
  have key : ∀ (i : Nat) (f : Ie), i < 5 → e.cells.set i (.int .i64 x) = f.cells → f.a = e.a → f.n = e.n → f.k = e.k → f.v.l = e.v.l → ¬mayE f.v → e.v ≠ f.v → ∃ H4 H', stc H3 H.next i [.int .i64 x] = some H4 ∧ L1 p 0 H.next 0 H4 (.bool true, H') := by
    intro i f hi hf h1 h2 h3 h4 hmf hne
    obtain ⟨H4, s4, g4, c4, n4⟩ := rowSet (i := i) (.int .i64 x) g3 (by omega) hi
    rw [hf] at g4
    have he4 : IeOk H4 e := he.keep (k3.trans (c4.kp (by omega) (by omega)))
    obtain ⟨H', z⟩ := l1 (f := f) (c4.at (by omega) (by omega) hp3) g4 (by omega) (by omega) he4 ⟨by rw [h1, h2, h3, h4]; exact he4.s, by rw [h2]; exact he.sm⟩ hmf hne
    exact ⟨H4, H', s4, z⟩
  have fin : ∃ H', (if e.v.kd = 1 then (∃ (H_4 : Heap), stc H3 H.next 3 [.int .i64 x] = some H_4 ∧ L1 p 0 H.next 0 H_4 (.bool true, H')) else if e.v.kd = 2 then (∃ (H_5 : Heap), stc H3 H.next 2 [.int .i64 x] = some H_5 ∧ L1 p 0 H.next 0 H_5 (.bool true, H')) else (∃ (H_6 : Heap), stc H3 H.next 1 [.int .i64 x] = some H_6 ∧ L1 p 0 H.next 0 H_6 (.bool true, H'))) := by
    by_cases h1 : e.v.kd = 1
    · obtain ⟨H4, H', s4, z⟩ := key 3 ⟨⟨e.v.kd, e.v.asn, e.v.rk, x, e.v.l⟩, e.a, e.n, e.k⟩ (by omega) rfl rfl rfl rfl rfl (fun m => hx ((mayE_1 (v := ⟨e.v.kd, e.v.asn, e.v.rk, x, e.v.l⟩) h1).1 m).2.2.1) (fun c => hx (by have := congrArg VE.tk c; rw [((mayE_1 h1).1 hm).2.2.1] at this; exact this.symm))
      exact ⟨H', by rw [if_pos h1]; exact ⟨H4, s4, z⟩⟩
    by_cases h2 : e.v.kd = 2
    · obtain ⟨H4, H', s4, z⟩ := key 2 ⟨⟨e.v.kd, e.v.asn, x, e.v.tk, e.v.l⟩, e.a, e.n, e.k⟩ (by omega) rfl rfl rfl rfl rfl (fun m => hx ((mayE_2 (v := ⟨e.v.kd, e.v.asn, x, e.v.tk, e.v.l⟩) h2).1 m).2.2.1) (fun c => hx (by have := congrArg VE.rk c; rw [((mayE_2 h2).1 hm).2.2.1] at this; exact this.symm))
      exact ⟨H', by rw [if_neg h1, if_pos h2]; exact ⟨H4, s4, z⟩⟩
    by_cases h3 : e.v.kd = 3 ∨ e.v.kd = 4
    · obtain ⟨H4, H', s4, z⟩ := key 1 ⟨⟨e.v.kd, x, e.v.rk, e.v.tk, e.v.l⟩, e.a, e.n, e.k⟩ (by omega) rfl rfl rfl rfl rfl (fun m => hx ((mayE_3 (v := ⟨e.v.kd, x, e.v.rk, e.v.tk, e.v.l⟩) h3).1 m).2.1) (fun c => hx (by have := congrArg VE.asn c; rw [((mayE_3 h3).1 hm).2.1] at this; exact this.symm))
      exact ⟨H', by rw [if_neg h1, if_neg h2]; exact ⟨H4, s4, z⟩⟩
    · exact absurd hm (mayE_0 h1 h2 h3)
  obtain ⟨H', z⟩ := fin
  refine ⟨H', L0_step ?_⟩
  rw [if_neg (by simp)]
  exact ⟨_, _, _, _, _, _, _, rldAll hp, _, rfl, H3, s3, _, rldc' hp3 0, z⟩
theorem ok {H : Heap} {e : Ie} (h : IeOk H e) (x : Int) : ∃ H', Ce 3 [e.agg, .int .i64 x] H = some (.bool true, H') := by
  obtain ⟨H1, e1, n1, g1, k1⟩ := one H e.cells
  have k2 : Keep H1.next H1 (H1.push (.row e.cells true)) := Keep.push _ (Nat.le_refl _)
  obtain ⟨t, H3, c3, k3, ht⟩ := F13.ok (Ies.one H1 e true) (l := [e]) (by omega)
  have k13 := k2.trans (k3.weak (by simp))
  have k03 := k1.trans (k13.weak (by omega))
  have n3 := k13.next
  have g3 : H3.get H.next = .row e.cells true := by rw [k13.get _ (by omega)]; exact g1
  by_cases h0 : t > 0
  · obtain ⟨H', z⟩ := awake (H := H3) (p := H.next) (x := x)
    refine ⟨H', call ⟨_, e1, _, _, _, _, _, _, _, rldAll g1, _, rfl, _, _, c3, ?_⟩⟩
    rw [if_pos h0]; exact z
  · have he3 := h.keep k03
    obtain ⟨H4, c4, k4⟩ := F14.ok he3
    have g4 : H4.get H.next = .row e.cells true := by rw [k4.get _ (by omega)]; exact g3
    have n4 := k4.next
    by_cases hm : mayE e.v
    · by_cases hx : x = 0
      · obtain ⟨H', z⟩ := awake (H := H4) (p := H.next) (x := x)
        refine ⟨H', call ⟨_, e1, _, _, _, _, _, _, _, rldAll g1, _, rfl, _, _, c3, ?_⟩⟩
        rw [if_neg h0]
        refine ⟨_, _, _, _, _, _, _, rldAll g3, _, _, c4, ?_⟩
        rw [if_pos (by simpa using hm), show (x == 0) = true by simp [hx]]
        exact z
      · obtain ⟨H', z⟩ := l0 g4 (by omega) (he3.keep k4) hm hx
        refine ⟨H', call ⟨_, e1, _, _, _, _, _, _, _, rldAll g1, _, rfl, _, _, c3, ?_⟩⟩
        rw [if_neg h0]
        refine ⟨_, _, _, _, _, _, _, rldAll g3, _, _, c4, ?_⟩
        rw [if_pos (by simpa using hm), show (x == 0) = false by simp [hx]]
        exact z
    · obtain ⟨H', z⟩ := awake (H := H4) (p := H.next) (x := x)
      refine ⟨H', call ⟨_, e1, _, _, _, _, _, _, _, rldAll g1, _, rfl, _, _, c3, ?_⟩⟩
      rw [if_neg h0]
      refine ⟨_, _, _, _, _, _, _, rldAll g3, _, _, c4, ?_⟩
      rw [if_neg (by simpa using hm)]
      exact z
theorem law {H : Heap} {ds : List (List Value)} (h : HoldsAll H [TIe, .int .i64] ds) : ∃ H', Ce 3 (vals [TIe, .int .i64] ds) H = some (.bool true, H') := by
  obtain ⟨d0, _, rfl, h0, h⟩ := h.cons
  obtain ⟨d1, _, rfl, h1, h⟩ := h.cons
  obtain rfl := h.nil
  obtain ⟨e, rfl, he⟩ := ieOf h0
  obtain ⟨a, rfl, _⟩ := h1.i
  exact ok he a
end F3
theorem flat_take {α : Type} {f : α → List Value} {z : Nat} (hz : ∀ x, (f x).length = z) (l : List α) {j : Nat} (hj : j ≤ l.length) : (l.flatMap f).take (j * z) = (l.take j).flatMap f := by
  have e : l.flatMap f = (l.take j).flatMap f ++ (l.drop j).flatMap f := by rw [← List.flatMap_append, List.take_append_drop]
  have e2 : ((l.take j).flatMap f).length = j * z := by rw [flat_len hz, List.length_take, Nat.min_eq_left hj]
  rw [e, ← e2, List.take_left]
theorem fstV_app (kd : Int) (l m : List VE) : fstV kd (l ++ m) = (fstV kd l).or (fstV kd m) := by
  induction l with
  | nil => rfl
  | cons v l ih =>
    show (if v.kd = kd then some v else fstV kd (l ++ m)) = (if v.kd = kd then some v else fstV kd l).or (fstV kd m)
    by_cases h : v.kd = kd
    · rw [if_pos h, if_pos h]; rfl
    · rw [if_neg h, if_neg h]; exact ih
theorem ies_take {G : Heap} {a : Option Addr} {n k : Nat} {l : List Ie} (hs : Ies G a n k l) {j : Nat} (hj : j ≤ n) : ∃ a' k', psl 5 a n k none (some (j : Int)) none = some (a', j, k') ∧ Ies G a' j k' (l.take j) := by
  have hc := hs.cnt Ie.z (by decide)
  obtain ⟨a', k', h1, h2⟩ := hs.part none (some (j : Int)) 0 j (.inl ⟨rfl, rfl⟩) (.inr rfl) (by omega) hj
  simp only [Nat.sub_zero, Nat.zero_mul, List.drop_zero] at h1 h2
  rw [flat_take Ie.z _ (by omega)] at h2
  exact ⟨a', k', h1, h2⟩
namespace F5
theorem l0 {G : Heap} {a : Option Addr} {n k p : Nat} {kd : Int} {l : List Ie} {f : Ie} (hs : Ies G a n k l) (hn : n ≤ 20) (hl : ∀ e ∈ l, IeOk G e) (hp : p < G.next) (gp : G.get p = .row f.cells true) (hf : IeOk G f) (hfv : f.v = (fstV kd (l.map Ie.v)).getD ve0) : ∀ (rest : List Ie) (j : Nat) (H : Heap), l.drop j = rest → j + rest.length = n → Keep G.next G H → fstV kd ((l.take j).map Ie.v) = none →
    ∃ H', L0 a n k kd p 0 (fstV kd (l.map Ie.v)).isSome a n k (n : Int) (j : Int) H (.bool true, H') := by
  have hc := hs.cnt Ie.z (by decide)
  intro rest
  induction rest with
  | nil =>
    intro j H hd hj hk hpre
    simp only [List.length_nil] at hj
    rw [List.take_of_length_le (by omega)] at hpre
    rw [hpre] at hfv ⊢
    have gp1 : H.get p = .row f.cells true := by rw [hk.get _ hp]; exact gp
    obtain ⟨H2, c2, k2⟩ := F19.ok (hf.keep hk) (IeOk.zero H)
    obtain ⟨H3, c3, k3⟩ := F15.ok H2
    refine ⟨H3, L0_step ?_⟩
    rw [if_neg (by omega), if_neg (by simp)]
    refine ⟨_, _, _, _, _, _, _, rldAll gp1, _, _, c2, ?_⟩
    rw [if_pos (by simpa using hfv)]
    exact ⟨_, _, c3, rfl⟩
  | cons e rest ih =>
    intro j H hd hj hk hpre
    simp only [List.length_cons] at hj
    have hx := drop_get hd
    obtain ⟨b, o, rfl⟩ := hs.at (by omega)
    have s1 := hs.keep hk
    have ra := s1.recs Ie.z hx
    obtain ⟨H2, s2, g2, k2, n2⟩ := scratchE (H := H) (e := e)
    have hk2 := hk.trans (k2.weak hk.next)
    have et : l.take (j + 1) = l.take j ++ [e] := by rw [List.take_add_one, hx]; rfl
    by_cases h1 : e.v.kd = kd
    · have el : fstV kd (l.map Ie.v) = some e.v := by
        have : l = l.take j ++ e :: rest := by rw [← hd, List.take_append_drop]
        rw [this, List.map_append, fstV_app, hpre, List.map_cons]
        exact if_pos h1
      rw [el] at hfv ⊢
      have hl2 : ∀ e ∈ l, IeOk H2 e := fun e he => (hl e he).keep hk2
      obtain ⟨a3, k3', ps, s3⟩ := ies_take (hs.keep hk2) (show j ≤ n by omega)
      obtain ⟨e3, H3, c3, k3, h3, v3⟩ := F21.ok s3 (by omega) (fun e he => hl2 e (List.mem_of_mem_take he)) kd
      rw [hpre] at c3 v3
      obtain ⟨H5, s5, g5, k5, n5⟩ := scratchE (H := H3) (e := e3)
      have k25 := k3.trans (k5.weak k3.next)
      have k6 : Keep H5.next H5 (H5.push (.row [] true)) := Keep.push _ (Nat.le_refl _)
      have o6 : Own H5.next (H5.push (.row [] true)) 5 (some ⟨H5.next, 0, none⟩) 0 (UNK 5) [] := Own.new rfl
      have k26 := k25.trans (k6.weak k25.next)
      have s6 := (hs.keep hk2).keep k26
      obtain ⟨a7, k7', H7, c7, o7, k7⟩ := Own.append (by_ := 56) o6 s6 (by decide) (by simp) (by omega) (by omega)
      have k27 := k26.trans (k7.weak k25.next)
      have n7 := k7.next
      obtain ⟨a8, k8', H8, c8, o8, k8⟩ := Own.append (by_ := 56) o7 ((hs.keep hk2).keep k27) (by decide) (by simp at n7; omega) (by omega) (by omega)
      have k28 := k27.trans (k8.weak k25.next)
      have k58 := (k6.trans k7).trans k8
      simp only [Nat.zero_add, List.nil_append, ← List.flatMap_append] at c7 c8 o8
      obtain ⟨e9, H9, c9, k9, h9, v9⟩ := F21.ok (l := l ++ l) o8.sl (by omega) (fun e he => by rcases List.mem_append.1 he with he | he <;> exact (hl2 e he).keep k28) kd
      rw [List.map_append, fstV_app, el] at c9 v9
      have k29 := k28.trans (k9.weak k28.next)
      obtain ⟨H11, s11, g11, k11, n11⟩ := scratchE (H := H9) (e := e9)
      have k211 := k29.trans (k11.weak k29.next)
      have kG := hk2.trans (k211.weak hk2.next)
      have gp11 : H11.get p = .row f.cells true := by rw [kG.get _ hp]; exact gp
      have ge11 : H11.get H.next = .row e.cells true := by rw [k211.get _ (by omega)]; exact g2
      have he2 := hl2 e (List.mem_of_getElem? hx)
      obtain ⟨H12, c12, k12⟩ := F19.ok (hf.keep kG) (he2.keep k211)
      have k1112 := k12
      have n9 := k9.next
      have n8 := k8.next
      have nn3 := k3.next
      have n58 := k58.next
      have n12 := k12.next
      have g12 : H12.get H3.next = .row e3.cells true := by
        rw [k12.get _ (by omega), k11.get _ (by omega), k9.get _ (by omega), k58.get _ (by omega)]; exact g5
      have h312 : IeOk H12 e3 := ((((h3.keep k5).keep k58).keep k9).keep k11).keep k12
      obtain ⟨H13, c13, k13⟩ := F19.ok h312 (IeOk.zero H12)
      have k1113 := k12.trans (k13.weak k12.next)
      have g13 : H13.get H9.next = .row e9.cells true := by rw [k1113.get _ (by omega)]; exact g11
      have ge13 : H13.get H.next = .row e.cells true := by rw [k1113.get _ (by omega)]; exact ge11
      obtain ⟨H14, c14, k14⟩ := F19.ok ((h9.keep k11).keep k1113) ((he2.keep k211).keep k1113)
      obtain ⟨H15, c15, k15⟩ := F15.ok H14
      refine ⟨H15, L0_step ?_⟩
      rw [if_pos (by omega)]
      refine ⟨b, o, rfl, by omega, by omega, _, _, _, _, _, _, _, ra, _, rfl, H2, s2, _, rldc' g2 0, ?_⟩
      rw [if_pos h1]
      refine ⟨_, _, _, ps, _, _, _, _, _, _, _, _, _, c3, _, rfl, H5, s5, _, rfl, _, _, _, _, c7, _, _, _, _, c8, _, _, _, _, _, _, _, _, _, c9, _, rfl, H11, s11, ?_⟩
      rw [if_pos (by simp)]
      refine ⟨_, _, _, _, _, _, _, rldAll gp11, _, _, _, _, _, _, _, rldAll ge11, _, _, c12, ?_⟩
      rw [if_pos (by simpa using hfv), if_neg (by simp)]
      refine ⟨_, _, _, _, _, _, _, rldAll g12, _, _, c13, ?_⟩
      rw [if_pos (by simpa using v3), if_pos (by simp)]
      refine ⟨_, _, _, _, _, _, _, rldAll g13, _, _, _, _, _, _, _, rldAll ge13, _, _, c14, ?_⟩
      rw [if_pos (by simpa using v9)]
      exact ⟨_, _, c15, rfl⟩
    · obtain ⟨H', z⟩ := ih (j + 1) H2 (drop_next hd) (by omega) hk2 (by rw [et, List.map_append, fstV_app, hpre]; exact if_neg h1)
      refine ⟨H', L0_step ?_⟩
      rw [if_pos (by omega)]
      refine ⟨b, o, rfl, by omega, by omega, _, _, _, _, _, _, _, ra, _, rfl, H2, s2, _, rldc' g2 0, ?_⟩
      rw [if_neg h1, i64 (by omega) (by omega)]
      exact_mod_cast z
theorem ok {H : Heap} {a : Option Addr} {n k : Nat} {l : List Ie} (hs : Ies H a n k l) (hn : n ≤ 3000000000000) (hl : ∀ e ∈ l, IeOk H e) (kd : Int) : ∃ H', Ce 5 [.slice a n k, .int .i64 kd] H = some (.bool true, H') := by
  have hc := hs.cnt Ie.z (by decide)
  obtain ⟨t, H1, c1, k1, ht⟩ := F13.ok hs hn
  by_cases h0 : t > 0
  · obtain ⟨H2, c2, k2⟩ := F15.ok H1
    refine ⟨H2, call ⟨_, _, c1, ?_⟩⟩
    rw [if_pos h0]
    exact ⟨_, _, c2, rfl⟩
  · have hli : lightP l := Decidable.byContradiction fun c => h0 (ht.2 c)
    have n20 := hli.1
    have s1 := hs.keep k1
    obtain ⟨f, H3, c3, k3, h3, v3⟩ := F21.ok s1 hn (fun e he => (hl e he).keep k1) kd
    obtain ⟨H5, s5, g5, k5, n5⟩ := scratchE (H := H3) (e := f)
    have k15 := k3.trans (k5.weak k3.next)
    obtain ⟨H', z⟩ := l0 (p := H3.next) (f := f) (kd := kd) (s1.keep k15) (by omega) (fun e he => ((hl e he).keep k1).keep k15) (by omega) g5 (h3.keep k5) v3 l 0 H5 rfl (by omega) (Keep.refl _ _) rfl
    refine ⟨H', call ⟨_, _, c1, ?_⟩⟩
    rw [if_neg h0]
    exact ⟨_, _, _, _, _, _, _, _, _, c3, _, rfl, H5, s5, z⟩
theorem law {H : Heap} {ds : List (List Value)} (h : HoldsAll H [.slice TIe 56, .int .i64] ds) : ∃ H', Ce 5 (vals [.slice TIe 56, .int .i64] ds) H = some (.bool true, H') := by
  obtain ⟨d0, _, rfl, h0, h⟩ := h.cons
  obtain ⟨d1, _, rfl, h1, h⟩ := h.cons
  obtain rfl := h.nil
  obtain ⟨a, n, k, l, rfl, hs, hc, hl, hb⟩ := Holds.recs (f := Ie.cells) (Q := IeOk H) (fun _ h => ieOf h) h0
  obtain ⟨kd, rfl, _⟩ := h1.i
  exact ok hs (by omega) hl kd
end F5
end Go.X
