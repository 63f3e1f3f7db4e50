/- The reference's frames. -/
import Derived.Test.YtbfjajoekcbodaaXzFa
import Derived.Test.YtbfjajoekcbodaaXzEw
import Derived.Test.YtbfjajoekcbodaaXzTeGw
set_option linter.unusedVariables false
set_option linter.unusedSimpArgs false
set_option maxRecDepth 20000
namespace Go.X
open Go Go.RowKit Go.Proofs
theorem bit0 (s : BitVec 16) : iand .u16 (nb s) 1 = if s.getLsbD 0 then 1 else 0 := by
  have e1 : iand .u16 (nb s) 1 = nb (s &&& 1#16) := iand_nb (k := .u16) rfl s 1#16
  have h : s.getLsbD 0 = decide (s.toNat % 2 = 1) := by rw [BitVec.getLsbD, Nat.testBit_zero]
  have e : s.toNat &&& 1 = s.toNat % 2 := Nat.and_one_is_mod _
  rw [e1, h, nb, BitVec.toNat_and, show (1#16).toNat = 1 from rfl, e]
  rcases Nat.mod_two_eq_zero_or_one s.toNat with h | h <;> simp [h]
theorem round2 (s : BitVec 16) : (if iand .u16 (nb s) 1 = 1 then ixor .u16 (ishr .u16 (nb s) 1) 33800 else ishr .u16 (nb s) 1) = nb (crcR s) := by
  have e4 : ishr .u16 (nb s) 1 = nb (s >>> 1) := ishr_nb (k := .u16) s 1 (by decide)
  rw [bit0, e4, crcR_if]
  cases s.getLsbD 0
  · simp
  · simp only [if_true]
    exact ixor_nb (k := .u16) rfl _ 33800#16
namespace F57
theorem l1 {a : Nat} {o n k : Nat} {t7 t8 : Int} {H : Heap} {r : Value × Heap} : ∀ (m : Nat) (s : BitVec 16) (i : Int), i + m = 8 → 0 ≤ i →
    L0 (nb (crcN m s)) (some ⟨a, o, none⟩) n k t7 (IntKind.wrap .i64 (t8 + 1)) H r → L1 (nb s) a o n k t7 t8 i H r := by
  intro m
  induction m with
  | zero =>
    intro s i hi h0 h
    refine L1_step ?_
    rw [if_neg (by omega)]
    exact h
  | succ m ih =>
    intro s i hi h0 h
    have z := ih (crcR s) (i + 1) (by omega) (by omega) h
    have e := round2 s
    refine L1_step ?_
    rw [if_pos (by omega), i64 (by omega) (by omega)]
    by_cases hb : iand .u16 (nb s) 1 = 1
    · rw [if_pos hb] at e ⊢
      rw [e]; exact z
    · rw [if_neg hb] at e ⊢
      rw [e]; exact z
theorem l0 {H : Heap} {a : Option Addr} {n k : Nat} {xs : List Int} (hs : By H a n k xs) (hn : n < 4611686018427387904) : ∀ (rest : List Int) (j : Nat) (s : BitVec 16), xs.drop j = rest → j + rest.length = n →
    L0 (nb s) a n k (n : Int) (j : Int) H (.int .u16 (nb (crcL s rest)), H) := by
  intro rest
  induction rest with
  | nil =>
    intro j s hd hj
    simp only [List.length_nil] at hj
    refine L0_step ?_
    rw [if_neg (by omega)]
    rfl
  | cons x rest ih =>
    intro j s hd hj
    simp only [List.length_cons] at hj
    obtain ⟨b, o, rfl⟩ := hs.at (by omega)
    refine L0_step ?_
    rw [if_pos (by omega)]
    have hx : xs[j]? = some x := by have := congrArg (·[0]?) hd; simpa using this
    refine ⟨b, o, rfl, by omega, by omega, x, Ints.get hs hx, ?_⟩
    rw [byteI]
    refine l1 8 _ 0 rfl (by decide) ?_
    rw [i64 (by omega) (by omega)]
    have := ih (j + 1) (crcB s x) (by rw [← List.drop_drop, hd]; rfl) (by omega)
    rw [crcL_cons]
    exact_mod_cast this
theorem ok {H : Heap} {a : Option Addr} {n k : Nat} {xs : List Int} (hs : By H a n k xs) (hn : n < 4611686018427387904) : Ce 57 [.slice a n k] H = some (.int .u16 (nb (crcL 0#16 xs)), H) := by
  refine call ?_
  exact l0 hs hn xs 0 0#16 (by simp) (by have := hs.ln; omega)
end F57
namespace F29
theorem ok {H : Heap} {a : Option Addr} {n k : Nat} {xs : List Int} (hs : By H a n k xs) (hn : n + 2 ≤ 140737488355328) : ∃ a' k' H', Ce 29 [.slice a n k] H = some (.slice a' (n + 2) k', H') ∧ Own H.next H' 1 a' (n + 2) k' ((crcA xs).map (Value.int .u8)) ∧ Keep H.next H H' := by
  have z : Own H.next H 1 none 0 0 [] := ⟨rfl, .inl ⟨rfl, rfl, rfl⟩⟩
  obtain ⟨a1, k1, H1, c1, o1, p1⟩ := z.append (by_ := 1) hs (by decide) (Nat.le_refl _) (by omega) (by omega)
  rw [Nat.zero_add] at c1 o1
  rw [List.nil_append] at o1
  have hp := Keep.push (H := H1) (.row [.int .u8 (lo8 (crcL 0#16 xs)), .int .u8 (hi8 (crcL 0#16 xs))] true) (Nat.le_refl H1.next)
  have e := (Own.new (H := H1) (z := 1) (n := 2) (vs := [.int .u8 (lo8 (crcL 0#16 xs)), .int .u8 (hi8 (crcL 0#16 xs))]) rfl).sl
  obtain ⟨a', k', H', h1, h2, h3⟩ := (o1.keep hp).append (by_ := 1) e (by decide) (Nat.le_trans p1.next hp.next) (by omega) (by omega)
  refine ⟨a', k', H', call ⟨_, _, F57.ok hs (by omega), _, _, _, _, c1, _, rfl, _, _, _, _, h1, rfl⟩, ?_, p1.trans ((hp.weak p1.next).trans h3)⟩
  simpa [crcA] using h2
end F29
namespace F67
theorem ok (x : Int) (H : Heap) : Ce 67 [.int .i64 x] H = some (.bool (decide (fnode x)), H) := by
  refine call ?_
  by_cases h : x ≥ 0
  · rw [if_pos h, show decide (x < 16) = decide (fnode x) from decide_eq_decide.2 ⟨fun h' => ⟨h, h'⟩, fun h' => h'.2⟩]
  · rw [if_neg h, decide_eq_false fun h' => h h'.1]
end F67
namespace F32
theorem ok {H : Heap} {f g : Fm} (h : FmOk H f) (h2 : FmOk H g) (hb : IsB f.dt) (hb2 : IsB g.dt) : ∃ H', Ce 32 [f.agg, g.agg] H = some (.bool (decide (f.v = g.v)), H') ∧ Keep H.next H H' := by
  obtain ⟨H1, H2, e1, e2, n1, n2, g1, g2, g3, k1, k2⟩ := two H f.cells g.cells
  have hf := h.keep k2
  have hg := h2.keep k2
  by_cases c1 : f.kd = g.kd
  · by_cases c2 : f.s = g.s
    · by_cases c3 : f.d = g.d
      · by_cases c4 : f.q = g.q
        · obtain ⟨H3, c5, k3⟩ := F25.ok hf.ies hg.ies hf.ok hg.ok hf.ls
          have g2' : H3.get H.next = .row f.cells true := by rw [k3.get _ (by omega)]; exact g2
          have g3' : H3.get H1.next = .row g.cells true := by rw [k3.get _ (by omega)]; exact g3
          have k03 := k2.trans (k3.weak k2.next)
          by_cases c6 : f.l.map Ie.v = g.l.map Ie.v
          · refine ⟨H3, call ⟨_, e1, _, e2, _, rldc' g2 0, _, rldc' g3 0, ?_⟩, k03⟩
            rw [if_pos c1]
            refine ⟨_, rldc' g2 1, _, rldc' g3 1, ?_⟩
            rw [if_pos c2]
            refine ⟨_, rldc' g2 2, _, rldc' g3 2, ?_⟩
            rw [if_pos c3]
            refine ⟨_, rldc' g2 3, _, rldc' g3 3, ?_⟩
            rw [if_pos c4]
            refine ⟨_, _, _, rldc' g2 4, _, _, _, rldc' g3 4, _, _, c5, ?_⟩
            rw [if_pos (by simpa using c6)]
            refine ⟨_, _, _, rldc' g2' 5, _, Sl.str (hf.dts.keep k3), _, _, _, rldc' g3' 5, _, Sl.str (hg.dts.keep k3), ?_⟩
            rw [str_eq hb hb2, show decide (f.v = g.v) = decide (f.dt = g.dt) from decide_eq_decide.2 ⟨fun e => congrArg VF.dt e, fun e => (VF.ext_iff' _ _).2 ⟨c1, c2, c3, c4, c6, e⟩⟩]
          · refine ⟨H3, call ⟨_, e1, _, e2, _, rldc' g2 0, _, rldc' g3 0, ?_⟩, k03⟩
            rw [if_pos c1]
            refine ⟨_, rldc' g2 1, _, rldc' g3 1, ?_⟩
            rw [if_pos c2]
            refine ⟨_, rldc' g2 2, _, rldc' g3 2, ?_⟩
            rw [if_pos c3]
            refine ⟨_, rldc' g2 3, _, rldc' g3 3, ?_⟩
            rw [if_pos c4]
            refine ⟨_, _, _, rldc' g2 4, _, _, _, rldc' g3 4, _, _, c5, ?_⟩
            rw [if_neg (by simpa using c6), decide_eq_false fun e => c6 (congrArg VF.es e)]
        · refine ⟨H2, call ⟨_, e1, _, e2, _, rldc' g2 0, _, rldc' g3 0, ?_⟩, k2⟩
          rw [if_pos c1]
          refine ⟨_, rldc' g2 1, _, rldc' g3 1, ?_⟩
          rw [if_pos c2]
          refine ⟨_, rldc' g2 2, _, rldc' g3 2, ?_⟩
          rw [if_pos c3]
          refine ⟨_, rldc' g2 3, _, rldc' g3 3, ?_⟩
          rw [if_neg c4, decide_eq_false fun e => c4 (congrArg VF.q e)]
      · refine ⟨H2, call ⟨_, e1, _, e2, _, rldc' g2 0, _, rldc' g3 0, ?_⟩, k2⟩
        rw [if_pos c1]
        refine ⟨_, rldc' g2 1, _, rldc' g3 1, ?_⟩
        rw [if_pos c2]
        refine ⟨_, rldc' g2 2, _, rldc' g3 2, ?_⟩
        rw [if_neg c3, decide_eq_false fun e => c3 (congrArg VF.d e)]
    · refine ⟨H2, call ⟨_, e1, _, e2, _, rldc' g2 0, _, rldc' g3 0, ?_⟩, k2⟩
      rw [if_pos c1]
      refine ⟨_, rldc' g2 1, _, rldc' g3 1, ?_⟩
      rw [if_neg c2, decide_eq_false fun e => c2 (congrArg VF.s e)]
  · refine ⟨H2, call ⟨_, e1, _, e2, _, rldc' g2 0, _, rldc' g3 0, ?_⟩, k2⟩
    rw [if_neg c1, decide_eq_false fun e => c1 (congrArg VF.kd e)]
end F32
namespace F35
theorem l2 {H : Heap} {b : Nat} {f : Fm} (h : FmOk H f) (g : H.get b = .row f.cells true) (hb : b < H.next) (hk : 1 ≤ f.kd ∧ f.kd ≤ 5) : ∃ H', L2 b 0 f.kd (if f.kd = 2 then true else (f.kd == 4)) H (.bool (decide (saysP f.kd f.d (f.l.map Ie.v) f.dt)), H') ∧ Keep H.next H H' := by
  have len0 : ((f.dt.length : Int) == 0) = decide (f.dt = []) := by
    rw [show ((f.dt.length : Int) == 0) = decide ((f.dt.length : Int) = 0) from rfl]
    refine decide_eq_decide.2 ⟨fun c => List.eq_nil_of_length_eq_zero (by omega), fun c => by rw [c]; rfl⟩
  have lenP : decide ((f.dt.length : Int) > 0) = decide (f.dt ≠ []) := by
    refine decide_eq_decide.2 ⟨fun c e => by rw [e] at c; simp at c, fun c => by have := List.length_pos_iff.2 c; omega⟩
  by_cases hk24 : f.kd = 2 ∨ f.kd = 4
  · have ef : (if f.kd = 2 then true else (f.kd == 4)) = true := by rcases hk24 with h | h <;> simp [h]
    rw [ef]
    refine ⟨H, L2_step ?_, Keep.refl _ _⟩
    rw [if_pos rfl]
    refine ⟨_, rldc' g 2, ?_⟩
    by_cases hd : f.d = 64
    · rw [if_pos hd, decide_eq_false]
      rintro (m | m | m)
      · exact m.2.1 hd
      · have := m.1; omega
      · have := m.1; omega
    · rw [if_neg hd]
      refine ⟨_, _, _, rldc' g 5, ?_⟩
      rw [len0, show decide (saysP f.kd f.d (f.l.map Ie.v) f.dt) = decide (f.dt = []) from decide_eq_decide.2 ⟨fun m => by
        rcases m with m | m | m
        · exact m.2.2
        · exact m.2.2.1
        · have := m.1; omega, fun m => .inl ⟨hk24, hd, m⟩⟩]
  have ef : (if f.kd = 2 then true else (f.kd == 4)) = false := by
    rw [if_neg fun c => hk24 (.inl c)]
    simpa using fun c => hk24 (.inr c)
  rw [ef]
  by_cases h3 : f.kd = 3
  · obtain ⟨e, H2, c2, k2, h2, v2⟩ := F22.ok h.ies h.ls h.ok 1
    obtain ⟨H4, s4, g4, k4, n4⟩ := scratchE (H := H2) (e := e)
    have k24 := k2.trans (k4.weak k2.next)
    have gf : H4.get b = .row f.cells true := by rw [k24.get _ hb]; exact g
    refine ⟨H4, L2_step ?_, k24⟩
    rw [if_neg (by simp), if_pos h3]
    refine ⟨_, _, _, rldc' g 4, _, _, _, _, _, _, _, _, _, c2, _, rfl, H4, s4, _, rldc' gf 2, ?_⟩
    by_cases hd : f.d = 64
    · rw [if_pos hd]
      refine ⟨_, _, _, rldc' gf 5, ?_⟩
      by_cases hdt : (f.dt.length : Int) = 0
      · rw [if_pos hdt]
        have hdt' : f.dt = [] := List.eq_nil_of_length_eq_zero (by omega)
        rw [show decide (saysP f.kd f.d (f.l.map Ie.v) f.dt) = (fstV 1 (f.l.map Ie.v)).isSome by
          cases hs : (fstV 1 (f.l.map Ie.v)).isSome
          · refine decide_eq_false ?_
            rintro (m | m | m)
            · exact m.2.1 hd
            · have := m.2.2.2; rw [hs] at this; cases this
            · exact m.2.1 hd
          · exact decide_eq_true (.inr (.inl ⟨h3, hd, hdt', hs⟩))]
      · rw [if_neg hdt, decide_eq_false]
        rintro (m | m | m)
        · exact m.2.1 hd
        · exact hdt (by rw [m.2.2.1]; rfl)
        · exact m.2.1 hd
    · rw [if_neg hd, decide_eq_false]
      rintro (m | m | m)
      · exact hk24 m.1
      · exact hd m.2.1
      · have := m.1; omega
  · refine ⟨H, L2_step ?_, Keep.refl _ _⟩
    rw [if_neg (by simp), if_neg h3]
    refine ⟨_, rldc' g 2, ?_⟩
    by_cases hd : f.d = 64
    · rw [if_pos hd, decide_eq_false]
      rintro (m | m | m)
      · exact m.2.1 hd
      · exact h3 m.1
      · exact m.2.1 hd
    · rw [if_neg hd]
      refine ⟨_, _, _, rldc' g 5, ?_⟩
      rw [lenP, show decide (saysP f.kd f.d (f.l.map Ie.v) f.dt) = decide (f.dt ≠ []) from decide_eq_decide.2 ⟨fun m => by
        rcases m with m | m | m
        · exact absurd m.1 hk24
        · exact absurd m.1 h3
        · exact m.2.2, fun m => .inr (.inr ⟨by omega, hd, m⟩)⟩]
theorem l1 {G : Heap} {b : Nat} {f : Fm} (h : FmOk G f) (g : G.get b = .row f.cells true) (hb : b < G.next) (hk : 1 ≤ f.kd ∧ f.kd ≤ 5) : ∀ (rest : List Ie) (j : Nat) (H : Heap), f.l.drop j = rest → j + rest.length = f.l.length → Keep G.next G H →
    ∃ H', L1 b 0 f.ea f.l.length f.ek (f.l.length : Int) (j : Int) H (.bool (decide ((∀ e ∈ rest, mayE e.v) ∧ saysP f.kd f.d (f.l.map Ie.v) f.dt)), H') ∧ Keep G.next G H' := by
  have hls := h.ls
  intro rest
  induction rest with
  | nil =>
    intro j H hd hj hkp
    simp only [List.length_nil] at hj
    have gH : H.get b = .row f.cells true := by rw [hkp.get _ hb]; exact g
    obtain ⟨H', z, k'⟩ := l2 (h.keep hkp) gH (by have := hkp.next; omega) hk
    rw [show decide ((∀ e ∈ ([] : List Ie), mayE e.v) ∧ saysP f.kd f.d (f.l.map Ie.v) f.dt) = decide (saysP f.kd f.d (f.l.map Ie.v) f.dt) from decide_eq_decide.2 ⟨fun m => m.2, fun m => ⟨by simp, m⟩⟩]
    refine ⟨H', L1_step ?_, hkp.trans (k'.weak hkp.next)⟩
    rw [if_neg (by omega)]
    refine ⟨_, rldc' gH 0, ?_⟩
    by_cases h2 : f.kd = 2
    · rw [if_pos h2]
      rw [if_pos h2] at z
      rwa [show (f.kd == 2) = true by simp [h2]]
    · rw [if_neg h2]
      rw [if_neg h2] at z
      exact z
  | cons e rest ih =>
    intro j H hd hj hkp
    simp only [List.length_cons] at hj
    have hx := drop_get hd
    have hmem := List.mem_of_getElem? hx
    obtain ⟨b1, o1, hea⟩ := h.ies.at (by omega)
    have s1 := h.ies.keep hkp
    rw [hea] at s1
    have ra := s1.recs Ie.z hx
    obtain ⟨H2, s2, g2, k2, n2⟩ := scratchE (H := H) (e := e)
    have hk2 := hkp.trans (k2.weak hkp.next)
    obtain ⟨H3, c3, k3⟩ := F18.ok ((h.ok e hmem).keep hk2)
    have hk3 := hk2.trans (k3.weak hk2.next)
    by_cases hm : mayE e.v
    · obtain ⟨H', z, k'⟩ := ih (j + 1) H3 (drop_next hd) (by omega) hk3
      rw [show decide ((∀ x ∈ e :: rest, mayE x.v) ∧ saysP f.kd f.d (f.l.map Ie.v) f.dt) = decide ((∀ x ∈ rest, mayE x.v) ∧ saysP f.kd f.d (f.l.map Ie.v) f.dt) by simp [hm]]
      refine ⟨H', L1_step ?_, k'⟩
      rw [if_pos (by omega)]
      refine ⟨b1, o1, hea, by omega, by omega, _, _, _, _, _, _, _, ra, _, rfl, H2, s2, _, _, _, _, _, _, _, rldAll g2, _, _, c3, ?_⟩
      rw [if_pos (by simpa using hm), i64 (by omega) (by omega), ← hea]
      exact_mod_cast z
    · rw [show decide ((∀ x ∈ e :: rest, mayE x.v) ∧ saysP f.kd f.d (f.l.map Ie.v) f.dt) = false from decide_eq_false fun c => hm (c.1 e (by simp))]
      refine ⟨H3, L1_step ?_, hk3⟩
      rw [if_pos (by omega)]
      refine ⟨b1, o1, hea, by omega, by omega, _, _, _, _, _, _, _, ra, _, rfl, H2, s2, _, _, _, _, _, _, _, rldAll g2, _, _, c3, ?_⟩
      rw [if_neg (by simpa using hm)]
theorem ok {H : Heap} {f : Fm} (h : FmOk H f) : ∃ H', Ce 35 [f.agg] H = some (.bool (decide (mayF f.v)), H') ∧ Keep H.next H H' := by
  obtain ⟨H1, e1, n1, g1, k1⟩ := one H f.cells
  have h1 := h.keep k1
  have bad : ¬mayF f.v → ∃ H', L0 H.next 0 true H1 (.bool (decide (mayF f.v)), H') ∧ Keep H.next H H' := fun hm => by
    refine ⟨H1, L0_step ?_, k1⟩
    rw [if_pos rfl, decide_eq_false hm]
  by_cases k0 : f.kd < 1
  · obtain ⟨H', z, k'⟩ := bad fun m => by have : 1 ≤ f.kd := (mayF_kd m).1; omega
    refine ⟨H', call ⟨_, e1, _, rldc' g1 0, ?_⟩, k'⟩
    rw [if_pos k0]; exact z
  by_cases k5 : f.kd > 5
  · obtain ⟨H', z, k'⟩ := bad fun m => by have : f.kd ≤ 5 := (mayF_kd m).2; omega
    refine ⟨H', call ⟨_, e1, _, rldc' g1 0, ?_⟩, k'⟩
    rw [if_neg k0]
    refine ⟨_, rldc' g1 0, ?_⟩
    rw [if_pos k5]; exact z
  have start : ∀ r, (∃ (t17 : Int), ldc H1 H.next 1 = some (.int .i64 t17) ∧
    (∃ (t18 : Bool) (H_2 : Heap), Ce 67 [.int .i64 t17] H1 = some (.bool t18, H_2) ∧
    (if t18 = true then
    (∃ (t23 : Int), ldc H_2 H.next 2 = some (.int .i64 t23) ∧
    (∃ (t24 : Bool) (H_3 : Heap), Ce 67 [.int .i64 t23] H_2 = some (.bool t24, H_3) ∧
    (if t24 = true then
    (∃ (t34 : Int), ldc H_3 H.next 2 = some (.int .i64 t34) ∧
    (∃ (t36 : Int), ldc H_3 H.next 1 = some (.int .i64 t36) ∧
    (if t34 = t36 then
    (L0 (H.next) (0) (true) H_3 r)
    else
    (∃ (t41 : Int), ldc H_3 H.next 3 = some (.int .i64 t41) ∧
    (if t41 < 0 then
    (L0 (H.next) (0) (true) H_3 r)
    else
    (∃ (t46 : Int), ldc H_3 H.next 3 = some (.int .i64 t46) ∧
    (if t46 > 255 then
    (L0 (H.next) (0) (true) H_3 r)
    else
    (∃ (t51a : Option Addr) (t51n : Nat) (t51k : Nat), ldc H_3 H.next 4 = some (.slice t51a t51n t51k) ∧
    (if ((t51n : Nat) : Int) > 4 then
    (L0 (H.next) (0) (true) H_3 r)
    else
    (∃ (t57a : Option Addr) (t57n : Nat) (t57k : Nat), ldc H_3 H.next 5 = some (.slice t57a t57n t57k) ∧
    (L0 (H.next) (0) ((decide (((t57n : Nat) : Int) > 64))) H_3 r)))))))))))
    else
    (∃ (t28 : Int), ldc H_3 H.next 2 = some (.int .i64 t28) ∧
    (if t28 = 64 then
    (∃ (t34_1 : Int), ldc H_3 H.next 2 = some (.int .i64 t34_1) ∧
    (∃ (t36_1 : Int), ldc H_3 H.next 1 = some (.int .i64 t36_1) ∧
    (if t34_1 = t36_1 then
    (L0 (H.next) (0) (true) H_3 r)
    else
    (∃ (t41_1 : Int), ldc H_3 H.next 3 = some (.int .i64 t41_1) ∧
    (if t41_1 < 0 then
    (L0 (H.next) (0) (true) H_3 r)
    else
    (∃ (t46_1 : Int), ldc H_3 H.next 3 = some (.int .i64 t46_1) ∧
    (if t46_1 > 255 then
    (L0 (H.next) (0) (true) H_3 r)
    else
    (∃ (t51a_1 : Option Addr) (t51n_1 : Nat) (t51k_1 : Nat), ldc H_3 H.next 4 = some (.slice t51a_1 t51n_1 t51k_1) ∧
    (if ((t51n_1 : Nat) : Int) > 4 then
    (L0 (H.next) (0) (true) H_3 r)
    else
    (∃ (t57a_1 : Option Addr) (t57n_1 : Nat) (t57k_1 : Nat), ldc H_3 H.next 5 = some (.slice t57a_1 t57n_1 t57k_1) ∧
    (L0 (H.next) (0) ((decide (((t57n_1 : Nat) : Int) > 64))) H_3 r)))))))))))
    else
    (L0 (H.next) (0) (true) H_3 r))))))
    else
    (L0 (H.next) (0) (true) H_2 r)))) → Ce 35 [f.agg] H = some r := by
    intro r z
    refine call ⟨_, e1, _, rldc' g1 0, ?_⟩
    rw [if_neg k0]
    refine ⟨_, rldc' g1 0, ?_⟩
    rw [if_neg k5]
    exact z
  have fin : fnode f.s → (fnode f.d ∨ f.d = 64) → ∃ H', (∃ (t34 : Int), ldc H1 H.next 2 = some (.int .i64 t34) ∧
    (∃ (t36 : Int), ldc H1 H.next 1 = some (.int .i64 t36) ∧
    (if t34 = t36 then
    (L0 (H.next) (0) (true) H1 (.bool (decide (mayF f.v)), H'))
    else
    (∃ (t41 : Int), ldc H1 H.next 3 = some (.int .i64 t41) ∧
    (if t41 < 0 then
    (L0 (H.next) (0) (true) H1 (.bool (decide (mayF f.v)), H'))
    else
    (∃ (t46 : Int), ldc H1 H.next 3 = some (.int .i64 t46) ∧
    (if t46 > 255 then
    (L0 (H.next) (0) (true) H1 (.bool (decide (mayF f.v)), H'))
    else
    (∃ (t51a : Option Addr) (t51n : Nat) (t51k : Nat), ldc H1 H.next 4 = some (.slice t51a t51n t51k) ∧
    (if ((t51n : Nat) : Int) > 4 then
    (L0 (H.next) (0) (true) H1 (.bool (decide (mayF f.v)), H'))
    else
    (∃ (t57a : Option Addr) (t57n : Nat) (t57k : Nat), ldc H1 H.next 5 = some (.slice t57a t57n t57k) ∧
    (L0 (H.next) (0) ((decide (((t57n : Nat) : Int) > 64))) H1 (.bool (decide (mayF f.v)), H')))))))))))) ∧ Keep H.next H H' := by
    intro m1 m2
    by_cases m3 : f.d = f.s
    · obtain ⟨H', z, k'⟩ := bad fun m => m.2.2.1 m3
      refine ⟨H', ⟨_, rldc' g1 2, _, rldc' g1 1, ?_⟩, k'⟩
      rw [if_pos m3]; exact z
    by_cases m4 : f.q < 0
    · obtain ⟨H', z, k'⟩ := bad fun m => by have : 0 ≤ f.q := m.2.2.2.1.1; omega
      refine ⟨H', ⟨_, rldc' g1 2, _, rldc' g1 1, ?_⟩, k'⟩
      rw [if_neg m3]
      refine ⟨_, rldc' g1 3, ?_⟩
      rw [if_pos m4]; exact z
    by_cases m5 : f.q > 255
    · obtain ⟨H', z, k'⟩ := bad fun m => by have : f.q ≤ 255 := m.2.2.2.1.2; omega
      refine ⟨H', ⟨_, rldc' g1 2, _, rldc' g1 1, ?_⟩, k'⟩
      rw [if_neg m3]
      refine ⟨_, rldc' g1 3, ?_⟩
      rw [if_neg m4]
      refine ⟨_, rldc' g1 3, ?_⟩
      rw [if_pos m5]; exact z
    by_cases m6 : (f.l.length : Int) > 4
    · obtain ⟨H', z, k'⟩ := bad fun m => by have := m.2.2.2.2.1.1; simp at this; omega
      refine ⟨H', ⟨_, rldc' g1 2, _, rldc' g1 1, ?_⟩, k'⟩
      rw [if_neg m3]
      refine ⟨_, rldc' g1 3, ?_⟩
      rw [if_neg m4]
      refine ⟨_, rldc' g1 3, ?_⟩
      rw [if_neg m5]
      refine ⟨_, _, _, rldc' g1 4, ?_⟩
      rw [if_pos m6]; exact z
    by_cases m7 : (f.dt.length : Int) > 64
    · obtain ⟨H', z, k'⟩ := bad fun m => by have : f.dt.length ≤ 64 := m.2.2.2.2.2.1; omega
      refine ⟨H', ⟨_, rldc' g1 2, _, rldc' g1 1, ?_⟩, k'⟩
      rw [if_neg m3]
      refine ⟨_, rldc' g1 3, ?_⟩
      rw [if_neg m4]
      refine ⟨_, rldc' g1 3, ?_⟩
      rw [if_neg m5]
      refine ⟨_, _, _, rldc' g1 4, ?_⟩
      rw [if_neg m6]
      refine ⟨_, _, _, rldc' g1 5, ?_⟩
      rw [decide_eq_true m7]; exact z
    · obtain ⟨H', z, k'⟩ := l1 h1 g1 (by omega) (by omega) f.l 0 H1 rfl (by omega) (Keep.refl _ _)
      have e : decide ((∀ e ∈ f.l, mayE e.v) ∧ saysP f.kd f.d (f.l.map Ie.v) f.dt) = decide (mayF f.v) := decide_eq_decide.2 ⟨fun m => ⟨m1, m2, m3, ⟨show 0 ≤ f.q by omega, show f.q ≤ 255 by omega⟩, ⟨by simp; omega, fun v hv => by obtain ⟨e, he, rfl⟩ := List.mem_map.1 hv; exact m.1 e he⟩, (show f.dt.length ≤ 64 by omega), m.2⟩, fun m => ⟨fun e he => m.2.2.2.2.1.2 _ (List.mem_map.2 ⟨e, he, rfl⟩), m.2.2.2.2.2.2⟩⟩
      rw [e] at z
      refine ⟨H', ⟨_, rldc' g1 2, _, rldc' g1 1, ?_⟩, k1.trans (k'.weak k1.next)⟩
      rw [if_neg m3]
      refine ⟨_, rldc' g1 3, ?_⟩
      rw [if_neg m4]
      refine ⟨_, rldc' g1 3, ?_⟩
      rw [if_neg m5]
      refine ⟨_, _, _, rldc' g1 4, ?_⟩
      rw [if_neg m6]
      refine ⟨_, _, _, rldc' g1 5, ?_⟩
      rw [decide_eq_false m7]
      refine L0_step ?_
      rw [if_neg (by simp)]
      exact ⟨_, _, _, rldc' g1 4, z⟩
  by_cases m1 : fnode f.s
  · by_cases m2 : fnode f.d
    · obtain ⟨H', z, k'⟩ := fin m1 (.inl m2)
      refine ⟨H', start _ ⟨_, rldc' g1 1, _, _, F67.ok _ _, ?_⟩, k'⟩
      rw [if_pos (by simpa using m1)]
      refine ⟨_, rldc' g1 2, _, _, F67.ok _ _, ?_⟩
      rw [if_pos (by simpa using m2)]
      exact z
    · by_cases m3 : f.d = 64
      · obtain ⟨H', z, k'⟩ := fin m1 (.inr m3)
        refine ⟨H', start _ ⟨_, rldc' g1 1, _, _, F67.ok _ _, ?_⟩, k'⟩
        rw [if_pos (by simpa using m1)]
        refine ⟨_, rldc' g1 2, _, _, F67.ok _ _, ?_⟩
        rw [if_neg (by simpa using m2)]
        refine ⟨_, rldc' g1 2, ?_⟩
        rw [if_pos m3]
        exact z
      · obtain ⟨H', z, k'⟩ := bad fun m => by rcases m.2.1 with h | h; exact m2 h; exact m3 h
        refine ⟨H', start _ ⟨_, rldc' g1 1, _, _, F67.ok _ _, ?_⟩, k'⟩
        rw [if_pos (by simpa using m1)]
        refine ⟨_, rldc' g1 2, _, _, F67.ok _ _, ?_⟩
        rw [if_neg (by simpa using m2)]
        refine ⟨_, rldc' g1 2, ?_⟩
        rw [if_neg m3]
        exact z
  · obtain ⟨H', z, k'⟩ := bad fun m => m1 m.1
    refine ⟨H', start _ ⟨_, rldc' g1 1, _, _, F67.ok _ _, ?_⟩, k'⟩
    rw [if_neg (by simpa using m1)]
    exact z
end F35
namespace F28
theorem ok {H : Heap} {f : Fm} (h : FmOk H f) (hb : IsB f.dt) : ∃ a' k' H', Ce 28 [f.agg] H = some (.tuple #[.slice a' (encFO f.v).length k', .int .i64 (if mayF f.v then 0 else 1)], H') ∧ OwnI .u8 H.next H' a' (encFO f.v).length k' (encFO f.v) ∧ Keep H.next H H' := by
  obtain ⟨H1, e1, n1, g1, k1⟩ := one H f.cells
  obtain ⟨H2, c2, k2⟩ := F35.ok (h.keep k1)
  have k02 := k1.trans (k2.weak k1.next)
  have n2 := k2.next
  have g2 : H2.get H.next = .row f.cells true := by rw [k2.get _ (by omega)]; exact g1
  by_cases hm : mayF f.v
  · rw [if_pos hm, encFO_may hm]
    have h2 := (h.keep k1).keep k2
    obtain ⟨a3, k3', H3, c3, o3, k3⟩ := F20.ok h2.ies h2.ok
    have hok : okL (f.l.map Ie.v) := hm.2.2.2.2.1
    have en : encO (f.l.map Ie.v) = encL (f.l.map Ie.v) := if_pos hok
    rw [en] at c3 o3
    have hxl := encL_len hok
    have hdl : f.dt.length ≤ 64 := hm.2.2.2.2.2.1
    have n3 := k3.next
    have g3 : H3.get H.next = .row f.cells true := by rw [k3.get _ (by omega)]; exact g2
    have k03 := k02.trans (k3.weak k02.next)
    have hkd : 1 ≤ f.kd ∧ f.kd ≤ 5 := mayF_kd hm
    have m1 : fnode f.s := hm.1
    have m2 : fnode f.d ∨ f.d = 64 := hm.2.1
    have m3 : 0 ≤ f.q ∧ f.q ≤ 255 := hm.2.2.2.1
    have d0 : 0 ≤ f.d ∧ f.d < 256 := by rcases m2 with ⟨a, b⟩ | h2 <;> omega
    have s0 : 0 ≤ f.s ∧ f.s < 256 := ⟨m1.1, by have := m1.2; omega⟩
    have o4 := OwnI.new (K := .u8) H3 [197, IntKind.wrap .u8 f.kd, IntKind.wrap .u8 f.s, IntKind.wrap .u8 f.d, IntKind.wrap .u8 f.q, IntKind.wrap .u8 ((encL (f.l.map Ie.v)).length : Int)]
    have k4 : Keep H3.next H3 (H3.push (.row ([197, IntKind.wrap .u8 f.kd, IntKind.wrap .u8 f.s, IntKind.wrap .u8 f.d, IntKind.wrap .u8 f.q, IntKind.wrap .u8 ((encL (f.l.map Ie.v)).length : Int)].map (Value.int .u8)) true)) := Keep.push _ (Nat.le_refl _)
    generalize e4 : H3.push (.row ([197, IntKind.wrap .u8 f.kd, IntKind.wrap .u8 f.s, IntKind.wrap .u8 f.d, IntKind.wrap .u8 f.q, IntKind.wrap .u8 ((encL (f.l.map Ie.v)).length : Int)].map (Value.int .u8)) true) = H4 at o4 k4
    rw [wrap8_id (show 0 ≤ f.kd ∧ f.kd < 256 by omega), wrap8_id s0, wrap8_id d0, wrap8_id (show 0 ≤ f.q ∧ f.q < 256 by omega), wrap8_id (show (0 : Int) ≤ (encL (f.l.map Ie.v)).length ∧ ((encL (f.l.map Ie.v)).length : Int) < 256 by omega)] at o4
    have n4 := k4.next
    obtain ⟨a5, k5', H5, c5, o5, k5⟩ := OwnI.app 1 o4 (show By H4 a3 (encL (f.l.map Ie.v)).length k3' (encL (f.l.map Ie.v)) from o3.sl.keep k4) n4 (by simp; omega) (by simp; omega)
    have n5 := k5.next
    have g5 : H5.get H.next = .row f.cells true := by rw [k5.get _ (by omega), k4.get _ (by omega)]; exact g3
    have h5 := ((h2.keep k3).keep k4)
    obtain ⟨H6, e6, m6, g6, k6⟩ := one H5 [.int .u8 (IntKind.wrap .u8 ((f.dt.length : Nat) : Int))]
    have s6 : Ints .u8 H6 (some ⟨H5.next, 0, none⟩) 1 (UNK 1) [IntKind.wrap .u8 ((f.dt.length : Nat) : Int)] := Sl.ofRow g6 (by omega)
    rw [wrap8_id (show (0 : Int) ≤ (f.dt.length : Int) ∧ (f.dt.length : Int) < 256 by omega)] at s6
    obtain ⟨a7, k7', H7, c7, o7, k7⟩ := OwnI.app 1 (o5.keep k6) s6 (by omega) (by simp; omega) (by simp; omega)
    have k37 : Keep H3.next H3 H7 := ((k4.trans k5).trans (k6.weak (by omega))).trans k7
    have n7 := k7.next
    obtain ⟨a8, k8', H8, c8, o8, k8⟩ := OwnI.app 1 o7 ((h2.keep k3).keep k37).dts (by omega) (by simp; omega) (by simp; omega)
    have g6' : H6.get H.next = .row f.cells true := by rw [k6.get _ (by omega)]; exact g5
    have g7 : H7.get H.next = .row f.cells true := by rw [k7.get _ (by omega)]; exact g6'
    have eB : [197, f.kd, f.s, f.d, f.q, ((encL (f.l.map Ie.v)).length : Int)] ++ encL (f.l.map Ie.v) ++ [(f.dt.length : Int)] ++ f.dt = bodyF f.v := by
      rw [bodyF_eq]; simp
    have eN : [197, f.kd, f.s, f.d, f.q, ((encL (f.l.map Ie.v)).length : Int)].length + (encL (f.l.map Ie.v)).length + 1 + f.dt.length = (bodyF f.v).length := by rw [← eB, List.length_append, List.length_append, List.length_append]; rfl
    rw [eN] at c8 o8
    rw [eB] at o8
    have n8 := k8.next
    have hbl : (bodyF f.v).length = (encL (f.l.map Ie.v)).length + f.dt.length + 7 := bodyF_len f.v
    obtain ⟨a9, k9', H9, c9, o9, k9⟩ := F29.ok (show By H8 a8 (bodyF f.v).length k8' (bodyF f.v) from o8.sl) (by omega)
    have el : (encF f.v).length = (bodyF f.v).length + 2 := crcA_len _
    rw [el]
    have k38 := k37.trans k8
    refine ⟨a9, k9', H9, call ⟨_, e1, _, _, _, _, _, _, _, _, _, _, rldAll g1, _, _, c2, ?_⟩, o9.weak (by omega), (k03.trans (k38.weak k03.next)).trans (k9.weak (by have := k38.next; omega))⟩
    rw [if_pos (by simpa using hm)]
    exact ⟨_, _, _, rldc' g2 4, _, _, _, _, _, c3, _, rldc' g3 0, _, rldc' g3 1, _, rldc' g3 2, _, rldc' g3 3, _, e4.symm, _, _, _, _, c5, _, _, _, rldc' g5 5, _, e6, _, _, _, _, c7, _, _, _, rldc' g5 5, _, _, _, _, c8, rldc' g6' 5, rldc' g7 5, _, _, _, _, c9, rfl⟩
  · rw [if_neg hm, encFO_no hm]
    refine ⟨none, 0, H2, call ⟨_, e1, _, _, _, _, _, _, _, _, _, _, rldAll g1, _, _, c2, ?_⟩, OwnI.nil, k02⟩
    rw [if_neg (by simpa using hm)]
    rfl
end F28
end Go.X
