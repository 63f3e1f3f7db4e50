/- The reference's frames as bytes. -/
import Derived.Test.YtbfjajoekcbodaaXzFr
set_option linter.unusedVariables false
set_option linter.unusedSimpArgs false
set_option maxRecDepth 20000
namespace Go.X
open Go Go.RowKit Go.Proofs
namespace F28
theorem ok {H : Heap} {f : Fm} (h : FmOk H f) (hb : IsB f.dt) : ∃ a' k' H', Ce 28 [f.agg] H = some (.tuple #[.slice a' (encFO f.v).length k', .int .i64 (if mayF f.v then 0 else 1)], H') ∧ OwnI .u8 H.next H' a' (encFO f.v).length k' (encFO f.v) ∧ Keep H.next H H' := by
  obtain ⟨H1, e1, n1, g1, k1⟩ := one H f.cells
  obtain ⟨H2, c2, k2⟩ := F35.ok (h.keep k1)
  have k02 := k1.trans (k2.weak k1.next)
  have n2 := k2.next
  have g2 : H2.get H.next = .row f.cells true := by rw [k2.get _ (by omega)]; exact g1
  by_cases hm : mayF f.v
  · rw [if_pos hm, encFO_may hm]
    have h2 := (h.keep k1).keep k2
    obtain ⟨a3, k3', H3, c3, o3, k3⟩ := F20.ok h2.ies h2.ok
    have hok : okL (f.l.map Ie.v) := hm.2.2.2.2.1
    have en : encO (f.l.map Ie.v) = encL (f.l.map Ie.v) := if_pos hok
    rw [en] at c3 o3
    have hxl := encL_len hok
    have hdl : f.dt.length ≤ 64 := hm.2.2.2.2.2.1
    have n3 := k3.next
    have g3 : H3.get H.next = .row f.cells true := by rw [k3.get _ (by omega)]; exact g2
    have k03 := k02.trans (k3.weak k02.next)
    have hkd : 1 ≤ f.kd ∧ f.kd ≤ 5 := mayF_kd hm
    have m1 : fnode f.s := hm.1
    have m2 : fnode f.d ∨ f.d = 64 := hm.2.1
    have m3 : 0 ≤ f.q ∧ f.q ≤ 255 := hm.2.2.2.1
    have d0 : 0 ≤ f.d ∧ f.d < 256 := by rcases m2 with ⟨a, b⟩ | h2 <;> omega
    have s0 : 0 ≤ f.s ∧ f.s < 256 := ⟨m1.1, by have := m1.2; omega⟩
    have o4 := OwnI.new (K := .u8) H3 [197, IntKind.wrap .u8 f.kd, IntKind.wrap .u8 f.s, IntKind.wrap .u8 f.d, IntKind.wrap .u8 f.q, IntKind.wrap .u8 ((encL (f.l.map Ie.v)).length : Int)]
    have k4 : Keep H3.next H3 (H3.push (.row ([197, IntKind.wrap .u8 f.kd, IntKind.wrap .u8 f.s, IntKind.wrap .u8 f.d, IntKind.wrap .u8 f.q, IntKind.wrap .u8 ((encL (f.l.map Ie.v)).length : Int)].map (Value.int .u8)) true)) := Keep.push _ (Nat.le_refl _)
    generalize e4 : H3.push (.row ([197, IntKind.wrap .u8 f.kd, IntKind.wrap .u8 f.s, IntKind.wrap .u8 f.d, IntKind.wrap .u8 f.q, IntKind.wrap .u8 ((encL (f.l.map Ie.v)).length : Int)].map (Value.int .u8)) true) = H4 at o4 k4
    rw [wrap8_id (show 0 ≤ f.kd ∧ f.kd < 256 by omega), wrap8_id s0, wrap8_id d0, wrap8_id (show 0 ≤ f.q ∧ f.q < 256 by omega), wrap8_id (show (0 : Int) ≤ (encL (f.l.map Ie.v)).length ∧ ((encL (f.l.map Ie.v)).length : Int) < 256 by omega)] at o4
    have n4 := k4.next
    obtain ⟨a5, k5', H5, c5, o5, k5⟩ := OwnI.app 1 o4 (show By H4 a3 (encL (f.l.map Ie.v)).length k3' (encL (f.l.map Ie.v)) from o3.sl.keep k4) n4 (by simp; omega) (by simp; omega)
    have n5 := k5.next
    have g5 : H5.get H.next = .row f.cells true := by rw [k5.get _ (by omega), k4.get _ (by omega)]; exact g3
    have h5 := ((h2.keep k3).keep k4)
    obtain ⟨H6, e6, m6, g6, k6⟩ := one H5 [.int .u8 (IntKind.wrap .u8 ((f.dt.length : Nat) : Int))]
    have s6 : Ints .u8 H6 (some ⟨H5.next, 0, none⟩) 1 (UNK 1) [IntKind.wrap .u8 ((f.dt.length : Nat) : Int)] := Sl.ofRow g6 (by omega)
    rw [wrap8_id (show (0 : Int) ≤ (f.dt.length : Int) ∧ (f.dt.length : Int) < 256 by omega)] at s6
    obtain ⟨a7, k7', H7, c7, o7, k7⟩ := OwnI.app 1 (o5.keep k6) s6 (by omega) (by simp; omega) (by simp; omega)
    have k37 : Keep H3.next H3 H7 := ((k4.trans k5).trans (k6.weak (by omega))).trans k7
    have n7 := k7.next
    obtain ⟨a8, k8', H8, c8, o8, k8⟩ := OwnI.app 1 o7 ((h2.keep k3).keep k37).dts (by omega) (by simp; omega) (by simp; omega)
    have g6' : H6.get H.next = .row f.cells true := by rw [k6.get _ (by omega)]; exact g5
    have g7 : H7.get H.next = .row f.cells true := by rw [k7.get _ (by omega)]; exact g6'
    have eB : [197, f.kd, f.s, f.d, f.q, ((encL (f.l.map Ie.v)).length : Int)] ++ encL (f.l.map Ie.v) ++ [(f.dt.length : Int)] ++ f.dt = bodyF f.v := by
      rw [bodyF_eq]; simp
    have eN : [197, f.kd, f.s, f.d, f.q, ((encL (f.l.map Ie.v)).length : Int)].length + (encL (f.l.map Ie.v)).length + 1 + f.dt.length = (bodyF f.v).length := by rw [← eB, List.length_append, List.length_append, List.length_append]; rfl
    rw [eN] at c8 o8
    rw [eB] at o8
    have n8 := k8.next
    have hbl : (bodyF f.v).length = (encL (f.l.map Ie.v)).length + f.dt.length + 7 := bodyF_len f.v
    obtain ⟨a9, k9', H9, c9, o9, k9⟩ := F29.ok (show By H8 a8 (bodyF f.v).length k8' (bodyF f.v) from o8.sl) (by omega)
    have el : (encF f.v).length = (bodyF f.v).length + 2 := crcA_len _
    rw [el]
    have k38 := k37.trans k8
    refine ⟨a9, k9', H9, call ⟨_, e1, _, _, _, _, _, _, _, _, _, _, rldAll g1, _, _, c2, ?_⟩, o9.weak (by omega), (k03.trans (k38.weak k03.next)).trans (k9.weak (by have := k38.next; omega))⟩
    rw [if_pos (by simpa using hm)]
    exact ⟨_, _, _, rldc' g2 4, _, _, _, _, _, c3, _, rldc' g3 0, _, rldc' g3 1, _, rldc' g3 2, _, rldc' g3 3, _, e4.symm, _, _, _, _, c5, _, _, _, rldc' g5 5, _, e6, _, _, _, _, c7, _, _, _, rldc' g5 5, _, _, _, _, c8, rldc' g6' 5, rldc' g7 5, _, _, _, _, c9, rfl⟩
  · rw [if_neg hm, encFO_no hm]
    refine ⟨none, 0, H2, call ⟨_, e1, _, _, _, _, _, _, _, _, _, _, rldAll g1, _, _, c2, ?_⟩, OwnI.nil, k02⟩
    rw [if_neg (by simpa using hm)]
    rfl
end F28
namespace F31
theorem zero {H0 H : Heap} {p z : Nat} {us : List Value} {er : Int} {L : Value × Heap → Prop} (g : H.get p = .row us true) (hl : us.length = 6) (hp : p < H.next) (hp0 : H0.next ≤ p) (gz : H.get z = .row fm0.cells true) (k : Keep H0.next H0 H)
    (i : ∀ H', ldAll H z 0 fm0.cells → stc H p 0 fm0.cells = some H' → ldAll H' p 0 fm0.cells → L (.tuple #[fm0.agg, .int .i64 er], H')) : F30.Post H0 (vf0, er) L :=
  F30.zero g hl hp hp0 k fun H' s l => i H' (rldAll gz) s l
theorem l0 {H0 G : Heap} {pr z q : Nat} {ea da : Option Addr} {ek dk : Nat} {xs dt : List Int} {c1 c2 c3 c4 : Int} (kG : Keep H0.next H0 G) (hpr : H0.next ≤ pr) (hq : H0.next ≤ q) (hne : pr ≠ q) (hzq : z ≠ q) (hzl : z < G.next) (hprl : pr < G.next) (hql : q < G.next) {us : List Value} (gr : G.get pr = .row us true) (hl : us.length = 6) (gz : G.get z = .row fm0.cells true)
    (gq : G.get q = .row [.int .i64 c1, .int .i64 c2, .int .i64 c3, .int .i64 c4, .slice none 0 0, .slice da dt.length dk] true) (hx : By G ea xs.length ek xs) (hxb : IsB xs) (hxl : xs.length ≤ 1000000) (hd : By G da dt.length dk dt) (hdl : dt.length ≤ 1000000) (hdq : ∀ b, In1 da b → b ≠ pr ∧ b ≠ q) :
    F30.Post H0 (if (decL xs).2 ≠ 0 then (vf0, (decL xs).2) else if mayF ⟨c1, c2, c3, c4, (decL xs).1, dt⟩ then (⟨c1, c2, c3, c4, (decL xs).1, dt⟩, 0) else (vf0, 3)) (L0 pr 0 z 0 q 0 ea xs.length ek false G) := by
  obtain ⟨l, a2, k2', H2, cc2, v2, s2, ok2, k2, fa, fe⟩ := F24.ok hx hxb hxl
  have n2 := k2.next
  have nG := kG.next
  have gq2 : H2.get q = .row [.int .i64 c1, .int .i64 c2, .int .i64 c3, .int .i64 c4, .slice none 0 0, .slice da dt.length dk] true := by rw [k2.get _ hql]; exact gq
  have gr2 : H2.get pr = .row us true := by rw [k2.get _ hprl]; exact gr
  have gz2 : H2.get z = .row fm0.cells true := by rw [k2.get _ hzl]; exact gz
  have k02 := kG.trans (k2.weak nG)
  rw [← v2]
  by_cases he : (decL xs).2 = 0
  · rw [if_neg (fun c => c he)]
    rw [he] at cc2
    obtain ⟨H3, s3, g3, f3, n3⟩ := rowSet (i := 4) (.slice a2 l.length k2') gq2 (by omega) (by simp)
    have gr3 : H3.get pr = .row us true := f3.at (by omega) hne gr2
    have gz3 : H3.get z = .row fm0.cells true := f3.at (by omega) hzq gz2
    have k03 : Keep H0.next H0 H3 := k02.trans (f3.kp (by omega) hq)
    have hf3 : FmOk H3 ⟨c1, c2, c3, c4, l, a2, k2', dt, da, dk⟩ := ⟨s2.chg f3 fun b hb h => by have := fa b hb; have h : b = q := h; omega, fun e hel => ⟨(ok2 e hel).s.chg f3 fun b hb h => by have := fe e hel b hb; have h : b = q := h; omega, (ok2 e hel).sm⟩, Sl.chg (hd.keep k2) f3 fun b hb h => (hdq b hb).2 h, by
      have h1 : l.length = (decL xs).1.length := by rw [← v2, List.length_map]
      have := decL_len xs
      show l.length ≤ _
      omega, by show dt.length ≤ _; omega⟩
    obtain ⟨H4, c4', k4⟩ := F35.ok hf3
    have n4 := k4.next
    have g4 : H4.get q = .row (Fm.cells ⟨c1, c2, c3, c4, l, a2, k2', dt, da, dk⟩) true := by rw [k4.get _ (by omega)]; exact g3
    have gr4 : H4.get pr = .row us true := by rw [k4.get _ (by omega)]; exact gr3
    have gz4 : H4.get z = .row fm0.cells true := by rw [k4.get _ (by omega)]; exact gz3
    have k04 := k03.trans (k4.weak k03.next)
    by_cases hm : mayF (Fm.v ⟨c1, c2, c3, c4, l, a2, k2', dt, da, dk⟩)
    · rw [if_pos hm]
      obtain ⟨H5, s5, g5, f5, n5⟩ := rowAll (us := Fm.cells ⟨c1, c2, c3, c4, l, a2, k2', dt, da, dk⟩) gr4 (by omega) (by rw [hl]; rfl)
      have hf4 := hf3.keep k4
      refine ⟨⟨c1, c2, c3, c4, l, a2, k2', dt, da, dk⟩, H5, L0_step ?_, rfl, ⟨hf4.ies.chg f5 fun b hb h => by have := fa b hb; have h : b = pr := h; omega, fun e hel => ⟨(hf4.ok e hel).s.chg f5 fun b hb h => by have := fe e hel b hb; have h : b = pr := h; omega, (hf4.ok e hel).sm⟩, Sl.chg hf4.dts f5 fun b hb h => (hdq b hb).1 h, hf4.ls, hf4.ds⟩, k04.trans (f5.kp k04.next hpr)⟩
      rw [if_neg (by simp)]
      refine ⟨_, _, _, _, _, cc2, ?_⟩
      rw [if_pos rfl]
      refine ⟨H3, s3, _, _, _, _, _, _, _, _, _, _, rldAll g3, _, _, c4', ?_⟩
      rw [if_pos (by simpa using hm)]
      exact ⟨_, _, _, _, _, _, _, _, _, _, rldAll g4, H5, s5, _, _, _, _, _, _, _, _, _, _, rldAll g5, rfl⟩
    · rw [if_neg hm]
      refine zero gr4 hl (by omega) hpr gz4 k04 fun H' lz s' l' => L0_step ?_
      rw [if_neg (by simp)]
      refine ⟨_, _, _, _, _, cc2, ?_⟩
      rw [if_pos rfl]
      refine ⟨H3, s3, _, _, _, _, _, _, _, _, _, _, rldAll g3, _, _, c4', ?_⟩
      rw [if_neg (by simpa using hm)]
      exact ⟨_, _, _, _, _, _, _, _, _, _, lz, H', s', _, _, _, _, _, _, _, _, _, _, l', rfl⟩
  · rw [if_pos he]
    refine zero gr2 hl (by omega) hpr gz2 k02 fun H' lz s' l' => L0_step ?_
    rw [if_neg (by simp)]
    refine ⟨_, _, _, _, _, cc2, ?_⟩
    rw [if_neg he]
    exact ⟨_, _, _, _, _, _, _, _, _, _, lz, H', s', _, _, _, _, _, _, _, _, _, _, l', rfl⟩
theorem l0t {H0 G : Heap} {pr z q : Nat} {ea : Option Addr} {en ek : Nat} (kG : Keep H0.next H0 G) (hpr : H0.next ≤ pr) (hprl : pr < G.next) {us : List Value} (gr : G.get pr = .row us true) (hl : us.length = 6) (gz : G.get z = .row fm0.cells true) : F30.Post H0 (vf0, 3) (L0 pr 0 z 0 q 0 ea en ek true G) := by
  refine zero gr hl hprl hpr gz kG fun H' lz s' l' => L0_step ?_
  rw [if_pos rfl]
  exact ⟨_, _, _, _, _, _, _, _, _, _, lz, H', s', _, _, _, _, _, _, _, _, _, _, l', rfl⟩
theorem ok {H : Heap} {s : Option Addr} {sn sk : Nat} {bs : List Int} (hs : By H s sn sk bs) (hb : IsB bs) (hbl : bs.length ≤ 1000000) : F30.Post H (decF bs) (fun r => Ce 31 [.slice s sn sk] H = some r) := by
  have hl := hs.ln
  obtain ⟨H1, H2, e1, e2, m1, m2, g1, g2, g2z, k1, k2⟩ := two H fm0.cells fm0.cells
  obtain ⟨H3, s3, g3z, f3, n3⟩ := rowAll (us := fm0.cells) g2z (by omega) rfl
  have g3 : H3.get H.next = .row fm0.cells true := f3.at (by omega) (by omega) g2
  have k03 : Keep H.next H H3 := k2.trans (f3.kp (by omega) (by omega))
  unfold decF
  by_cases b1 : bs.length < 9
  · rw [if_pos b1]
    refine zero g3 rfl (by omega) (Nat.le_refl _) g3z k03 fun H' lz s' l' => call ⟨_, e1, _, e2, H3, s3, ?_⟩
    rw [if_pos (by omega)]
    exact ⟨_, _, _, _, _, _, _, _, _, _, lz, H', s', _, _, _, _, _, _, _, _, _, _, l', rfl⟩
  rw [if_neg b1]
  have h3 : By H3 s sn sk bs := hs.keep k03
  obtain ⟨H5, c5, k5⟩ := F61.ok h3 hb (by omega)
  have n5 := k5.next
  have g5 : H5.get H.next = .row fm0.cells true := by rw [k5.get _ (by omega)]; exact g3
  have g5z : H5.get H1.next = .row fm0.cells true := by rw [k5.get _ (by omega)]; exact g3z
  have k05 := k03.trans (k5.weak k03.next)
  cases hgd : goodB bs with
  | false =>
    rw [hgd] at c5
    rw [if_pos rfl]
    refine zero g5 rfl (by omega) (Nat.le_refl _) g5z k05 fun H' lz s' l' => call ⟨_, e1, _, e2, H3, s3, ?_⟩
    rw [if_neg (by omega)]
    refine ⟨_, _, c5, ?_⟩
    rw [if_neg (by simp)]
    exact ⟨_, _, _, _, _, _, _, _, _, _, lz, H', s', _, _, _, _, _, _, _, _, _, _, l', rfl⟩
  | true =>
    rw [hgd] at c5
    rw [if_neg (by simp)]
    have h5 : By H5 s sn sk bs := h3.keep k5
    obtain ⟨a4, k4', p4, s4⟩ := Ints.part h5 none (some ((sn - 2 : Nat) : Int)) 0 (sn - 2) (.inl ⟨rfl, rfl⟩) (.inr rfl) (by omega) (by omega)
    simp only [List.drop_zero, Nat.sub_zero] at p4 s4
    have hyb : IsB (bs.take (sn - 2)) := fun x hx => hb x (List.mem_of_mem_take hx)
    have hyl : (bs.take (sn - 2)).length = sn - 2 := by simp; omega
    rw [show bs.length - 2 = sn - 2 by omega]
    have al : ∀ b, In1 a4 b → b < H.next := fun b hb' => by
      have := psl_sub p4 b hb'
      exact hs.lt this
    have mk := RFm.mk1 (Q := fun b => b < H.next) s4 (by omega) al
    have k6 : Keep H5.next H5 (H5.push (.row [.slice a4 (sn - 2) k4', .int .i64 0] true)) := Keep.push _ (Nat.le_refl _)
    generalize e6 : H5.push (.row [.slice a4 (sn - 2) k4', .int .i64 0] true) = H6 at mk k6
    have n6 : H6.next = H5.next + 1 := by rw [← e6]; rfl
    generalize hys : bs.take (sn - 2) = ys at *
    have r6 : RS (fun b => b < H.next) H6 H5.next ys 0 := by
      unfold RS rfX rfE
      rw [if_pos (by omega), if_pos (by omega), List.drop_zero]
      exact mk
    obtain ⟨H7, c7, r7, f7⟩ := RS.u8 hyb r6
    obtain ⟨H8, c8, r8, f8⟩ := RS.u8 hyb r7
    obtain ⟨H9, c9, r9, f9⟩ := RS.u8 hyb r8
    obtain ⟨H10, c10, r10, f10⟩ := RS.u8 hyb r9
    obtain ⟨H11, c11, r11, f11⟩ := RS.u8 hyb r10
    have fA : Chg (fun b => b = H5.next) H6 H11 := (((f7.trans f8 fun _ _ h => h).trans f9 fun _ _ h => h).trans f10 fun _ _ h => h).trans f11 fun _ _ h => h
    have nA := fA.next
    have g11 : H11.get H.next = .row fm0.cells true := by rw [fA.get _ (by omega) (by omega), k6.get _ (by omega)]; exact g5
    have g11z : H11.get H1.next = .row fm0.cells true := by rw [fA.get _ (by omega) (by omega), k6.get _ (by omega)]; exact g5z
    have kc : ∀ {X Y : Heap}, Keep H.next H X → Chg (fun b => b = H5.next) X Y → Keep H.next H Y := fun kx c => kx.trans (c.kp kx.next (by omega))
    have k011 := kc (k05.trans (k6.weak k05.next)) fA
    obtain ⟨H13, s13, g13, k13, n13⟩ := fill H11 fm0.cells (Fm.cells ⟨ys.getD 1 0, ys.getD 2 0, ys.getD 3 0, ys.getD 4 0, [], none, 0, [], none, 0⟩) rfl
    have r13 := r11.new k13
    have k013 := k011.trans (k13.weak k011.next)
    obtain ⟨H14, c14, r14, f14⟩ := RS.u8 hyb r13
    obtain ⟨_, y0, y1⟩ := stV_one hyb 5
    have e5 : (((ys.getD 5 0).toNat : Nat) : Int) = ys.getD 5 0 := by omega
    obtain ⟨ea, ek, H15, c15, o15, r15, f15⟩ := r14.raw (ys.getD 5 0).toNat
    rw [e5] at c15
    obtain ⟨H16, c16, r16, f16⟩ := RS.u8 hyb r15
    rw [show 0 + 1 + 1 + 1 + 1 + 1 + 1 + (ys.getD 5 0).toNat = 6 + (ys.getD 5 0).toNat by omega] at c16 r16
    obtain ⟨_, z0, z1⟩ := stV_one hyb (6 + (ys.getD 5 0).toNat)
    have e7 : (((ys.getD (6 + (ys.getD 5 0).toNat) 0).toNat : Nat) : Int) = ys.getD (6 + (ys.getD 5 0).toNat) 0 := by omega
    obtain ⟨da, dk, H17, c17, o17, r17, f17⟩ := r16.raw (ys.getD (6 + (ys.getD 5 0).toNat) 0).toNat
    rw [e7] at c17
    have n14 := f14.next
    have n15 := f15.next
    have n16 := f16.next
    have n17 := f17.next
    have fB : Chg (fun b => b = H5.next) H13 H17 := ((f14.trans f15 fun _ _ h => h).trans f16 fun _ _ h => h).trans f17 fun _ _ h => h
    have g17 : H17.get H.next = .row fm0.cells true := by rw [fB.get _ (by omega) (by omega), k13.get _ (by omega)]; exact g11
    have g17z : H17.get H1.next = .row fm0.cells true := by rw [fB.get _ (by omega) (by omega), k13.get _ (by omega)]; exact g11z
    have g17q : H17.get H11.next = .row (Fm.cells ⟨ys.getD 1 0, ys.getD 2 0, ys.getD 3 0, ys.getD 4 0, [], none, 0, [], none, 0⟩) true := by rw [fB.get _ (by omega) (by omega)]; exact g13
    have k017 := kc k013 fB
    rw [show 0 + 1 + 1 + 1 + 1 + 1 + 1 = 6 by omega] at c15 o15
    rw [show 6 + (ys.getD 5 0).toNat + 1 = 7 + (ys.getD 5 0).toNat by omega] at c17 o17 r17
    obtain ⟨H18, s18, g18, f18, n18⟩ := rowSet (i := 5) (.slice da (rfT ys (7 + (ys.getD 5 0).toNat) (ys.getD (6 + (ys.getD 5 0).toNat) 0).toNat).length dk) g17q (by omega) (by simp)
    have g18r : H18.get H.next = .row fm0.cells true := f18.at (by omega) (by omega) g17
    have g18z : H18.get H1.next = .row fm0.cells true := f18.at (by omega) (by omega) g17z
    have k018 := k017.trans (f18.kp k017.next (by omega))
    have r18 : RS (fun b => b < H.next) H18 H5.next ys (7 + (ys.getD 5 0).toNat + (ys.getD (6 + (ys.getD 5 0).toNat) 0).toNat) := r17.chg f18 (by omega) fun b hb' => by omega
    have c19 := r18.end_
    have hxs : By H18 ea (rfT ys 6 (ys.getD 5 0).toNat).length ek (rfT ys 6 (ys.getD 5 0).toNat) := by
      have q1 : ∀ b, In1 ea b → H14.next ≤ b := fun b hb => (o15.lt hb).1
      have t16 := o15.sl.chg f16 fun b hb h => by have := q1 b hb; have h : b = H5.next := h; omega
      have t17 := t16.chg f17 fun b hb h => by have := q1 b hb; have h : b = H5.next := h; omega
      exact t17.chg f18 fun b hb h => by have := q1 b hb; have h : b = H11.next := h; omega
    have hds : By H18 da (rfT ys (7 + (ys.getD 5 0).toNat) (ys.getD (6 + (ys.getD 5 0).toNat) 0).toNat).length dk (rfT ys (7 + (ys.getD 5 0).toNat) (ys.getD (6 + (ys.getD 5 0).toNat) 0).toNat) :=
      o17.sl.chg f18 fun b hb h => by have := (o17.lt hb).1; have h : b = H11.next := h; omega
    have start : ∀ r, (if ys.getD 0 0 = 197 then (∃ (t51 : Int) (H_19 : Heap), Ce 56 [.pointer (some ⟨H5.next, 0, none⟩)] H18 = some (.int .i64 t51, H_19) ∧ L0 H.next 0 H1.next 0 H11.next 0 ea (rfT ys 6 (ys.getD 5 0).toNat).length ek (!(t51 == 0)) H_19 r) else L0 H.next 0 H1.next 0 H11.next 0 ea (rfT ys 6 (ys.getD 5 0).toNat).length ek true H18 r) → Ce 31 [.slice s sn sk] H = some r := by
      intro r z
      refine call ⟨_, e1, _, e2, H3, s3, ?_⟩
      rw [if_neg (by omega)]
      refine ⟨_, _, c5, ?_⟩
      rw [if_pos rfl]
      refine ⟨_, _, _, ?_, _, e6.symm, _, _, c7, _, _, c8, _, _, c9, _, _, c10, _, _, c11, _, rfl, H13, s13, _, _, c14, _, _, _, _, c15, _, _, c16, _, _, _, _, c17, H18, s18, z⟩
      rw [i64 (by omega) (by omega), show ((sn : Int) - 2) = ((sn - 2 : Nat) : Int) by omega]
      exact p4
    unfold decY
    by_cases q1 : ys.getD 0 0 = 197
    · by_cases q2 : 7 + (ys.getD 5 0).toNat + (ys.getD (6 + (ys.getD 5 0).toNat) 0).toNat = ys.length
      · rw [if_neg (fun c => c ⟨q1, q2⟩)]
        rw [if_neg (by omega), if_neg (by omega)] at c19
        have ll := F30.rfT_len ys 6 (ys.getD 5 0).toNat
        have ld := F30.rfT_len ys (7 + (ys.getD 5 0).toNat) (ys.getD (6 + (ys.getD 5 0).toNat) 0).toNat
        refine F30.Post.imp (l0 (H0 := H) (G := H18) (pr := H.next) (z := H1.next) (q := H11.next) k018 (Nat.le_refl _) (by omega) (by omega) (by omega) (by omega) (by omega) (by omega) g18r rfl g18z g18 hxs (F30.rfT_isB hyb _ _) (by omega) hds (by omega) fun b hb => by have := (o17.lt hb).1; omega) fun r z => start r ?_
        rw [if_pos q1]
        exact ⟨_, _, c19, z⟩
      · rw [if_pos (fun c => q2 c.2)]
        refine F30.Post.imp (l0t (H0 := H) (G := H18) (pr := H.next) (z := H1.next) (q := H11.next) (ea := ea) (en := (rfT ys 6 (ys.getD 5 0).toNat).length) (ek := ek) k018 (Nat.le_refl _) (by omega) g18r rfl g18z) fun r z => start r ?_
        rw [if_pos q1]
        refine ⟨_, _, c19, ?_⟩
        have : (!((if ys.length < 7 + (ys.getD 5 0).toNat + (ys.getD (6 + (ys.getD 5 0).toNat) 0).toNat then (2 : Int) else if 7 + (ys.getD 5 0).toNat + (ys.getD (6 + (ys.getD 5 0).toNat) 0).toNat < ys.length then 3 else 0) == 0)) = true := by
          by_cases w1 : ys.length < 7 + (ys.getD 5 0).toNat + (ys.getD (6 + (ys.getD 5 0).toNat) 0).toNat
          · rw [if_pos w1]; rfl
          · rw [if_neg w1, if_pos (by omega)]; rfl
        rw [this]
        exact z
    · rw [if_pos (fun c => q1 c.1)]
      refine F30.Post.imp (l0t (H0 := H) (G := H18) (pr := H.next) (z := H1.next) (q := H11.next) (ea := ea) (en := (rfT ys 6 (ys.getD 5 0).toNat).length) (ek := ek) k018 (Nat.le_refl _) (by omega) g18r rfl g18z) fun r z => start r ?_
      rw [if_neg q1]
      exact z
end F31
end Go.X
