/- A region whose order is left open: it stands in every order (the proof). -/
import Derived.Test.YtomibdncbioijaaXzCoreK
set_option linter.unusedVariables false
set_option linter.unusedSimpArgs false
namespace Go.X
open Go Go.RowKit

/-! ### the last of the serial ones -/
def lastL (f : Nat → Bool) : Nat → Option Nat
  | 0 => none
  | n + 1 => if f n then some n else lastL f n
theorem lastL_congr {f g : Nat → Bool} : ∀ (n : Nat), (∀ i, i < n → f i = g i) → lastL f n = lastL g n := by
  intro n
  induction n with
  | zero => intro _; rfl
  | succ n ih => intro h; unfold lastL; rw [h n (by omega), ih fun i hi => h i (by omega)]
theorem lastL_prefix {f : Nat → Bool} {j : Nat} : ∀ (n : Nat), j ≤ n → (∀ i, j ≤ i → i < n → f i = false) → lastL f n = lastL f j := by
  intro n
  induction n with
  | zero => intro h _; have : j = 0 := by omega
            subst this; rfl
  | succ n ih =>
    intro hj h
    by_cases e : j = n + 1
    · subst e; rfl
    · show (if f n = true then some n else lastL f n) = lastL f j
      rw [h n (by omega) (by omega)]
      rw [if_neg (by simp)]
      exact ih (by omega) fun i h1 h2 => h i h1 (by omega)

/-! ### one that waits to be told of -/
structure Pend (m : Plan) (V : Heap) (w : World) (B0 nm : Nat) (r : NewRow) (e : Ent) : Prop where
  here : m nm = some e
  dead : V.get nm = .dead
  obj : ORel m w e (.row r.cs true)
  sole : ¬ LiveAt m V e.a.block
  new : B0 ≤ e.a.block

section
variable {m : Plan} {V : Heap} {w : World}

theorem live_revive {nm : Nat} {cs : List Value} {B : Nat} {e : Ent} (he : m nm = some e) (h : LiveAt m (V.set nm (.row cs true)) B) : LiveAt m V B ∨ B = e.a.block := by
  obtain ⟨b, e', hb, hB, hl⟩ := h
  by_cases hbn : b = nm
  · subst hbn; rw [he] at hb; cases hb; exact .inr hB.symm
  · rw [Heap.get_set_ne _ _ _ _ hbn] at hl; exact .inl ⟨b, e', hb, hB, hl⟩

theorem revive1 (h : HRel m V w) {B0 nm : Nat} {r : NewRow} {e : Ent} (hp : Pend m V w B0 nm r e) : HRel m (V.set nm (.row r.cs true)) w := by
  refine ⟨h.dom, fun b e' hb => ?_, fun b1 b2 e1 e2 hne hb1 hb2 ho hl => ?_⟩
  · by_cases hbn : b = nm
    · subst hbn; rw [hp.here] at hb; cases hb; rw [Heap.get_set_same]; exact hp.obj
    · rw [Heap.get_set_ne _ _ _ _ hbn]; exact h.obj b e' hb
  · by_cases h1 : b1 = nm
    · subst h1
      rw [hp.here] at hb1; cases hb1
      have h2 : b2 ≠ b1 := fun e => hne e.symm
      rw [Heap.get_set_ne _ _ _ _ h2] at hl
      exact fun he => hp.sole ⟨b2, e2, hb2, he.symm, hl⟩
    · rw [Heap.get_set_ne _ _ _ _ h1] at ho
      by_cases h2 : b2 = nm
      · subst h2
        rw [hp.here] at hb2; cases hb2
        exact fun he => hp.sole ⟨b1, e1, hb1, he, AObj.live_of_own ho⟩
      · rw [Heap.get_set_ne _ _ _ _ h2] at hl
        exact h.sep b1 b2 e1 e2 hne hb1 hb2 ho hl

theorem revive1_fr {m0 : Plan} {H0 : Heap} {w0 : World} (hf : Fr m0 H0 w0 m V w) {nm : Nat} {r : NewRow} {e : Ent} (hp : Pend m V w w0.heap.size nm r e) (hn : H0.next ≤ nm) : Fr m0 H0 w0 m (V.set nm (.row r.cs true)) w := by
  refine ⟨hf.le, hf.next, hf.os, hf.tape, hf.output, hf.size, hf.keep, fun B hB ho => ?_, fun B hB hl => ?_, fun b hb hd => ?_, hf.old⟩
  · refine hf.own B hB ?_
    obtain ⟨b, e', hb, hBe, hoo⟩ := ho
    by_cases hbn : b = nm
    · subst hbn; rw [hp.here] at hb; cases hb; have := hp.new; omega
    · rw [Heap.get_set_ne _ _ _ _ hbn] at hoo; exact ⟨b, e', hb, hBe, hoo⟩
  · rcases live_revive hp.here hl with h | h
    · exact hf.live B hB h
    · have := hp.new; omega
  · rw [Heap.get_set_ne _ _ _ _ (by omega)]; exact hf.dead b hb hd

/-- All that wait, in a row. -/
theorem reviveAll {m0 : Plan} {H0 : Heap} {w0 : World} {base : Nat} (hbase : H0.next ≤ base) : ∀ (l : List (Nat × NewRow)) (V : Heap), HRel m V w → Fr m0 H0 w0 m V w → (l.map (·.1)).Nodup →
    (∀ x ∈ l, ∃ e, Pend m V w w0.heap.size (base + x.1) x.2 e) → (∀ x ∈ l, ∀ y ∈ l, x.1 ≠ y.1 → ∀ e e', m (base + x.1) = some e → m (base + y.1) = some e' → e.a.block ≠ e'.a.block) →
    HRel m (setRows base V l) w ∧ Fr m0 H0 w0 m (setRows base V l) w ∧ (setRows base V l).next = V.next ∧ (∀ b, (∀ x ∈ l, b ≠ base + x.1) → (setRows base V l).get b = V.get b) ∧
    (∀ B, LiveAt m (setRows base V l) B → LiveAt m V B ∨ ∃ x ∈ l, ∃ e, m (base + x.1) = some e ∧ B = e.a.block) := by
  intro l
  induction l with
  | nil => intro V h hf _ _ _; exact ⟨h, hf, rfl, fun _ _ => rfl, fun B hB => .inl hB⟩
  | cons x l ih =>
    intro V h hf hnd hp hd
    obtain ⟨e, hpx⟩ := hp x (by simp)
    simp only [List.map_cons, List.nodup_cons] at hnd
    have hxl : ∀ y ∈ l, y.1 ≠ x.1 := fun y hy e => hnd.1 (List.mem_map.2 ⟨y, hy, e⟩)
    obtain ⟨g1, g2, g3, g4, g5⟩ := ih (V.set (base + x.1) (.row x.2.cs true)) (revive1 h hpx) (revive1_fr hf hpx (by omega)) hnd.2 (fun y hy => by
        obtain ⟨e', hpy⟩ := hp y (by simp [hy])
        have hne := hxl y hy
        refine ⟨e', hpy.here, by rw [Heap.get_set_ne _ _ _ _ (by omega)]; exact hpy.dead, hpy.obj, fun hl => ?_, hpy.new⟩
        rcases live_revive hpx.here hl with h' | h'
        · exact hpy.sole h'
        · exact hd x (by simp) y (by simp [hy]) (Ne.symm hne) e e' hpx.here hpy.here h'.symm)
      (fun y hy z hz => hd y (by simp [hy]) z (by simp [hz]))
    refine ⟨g1, g2, g3, fun b' hb => ?_, fun B hB => ?_⟩
    · show (setRows base (V.set (base + x.1) (.row x.2.cs true)) l).get b' = V.get b'
      rw [g4 b' fun y hy => hb y (by simp [hy]), Heap.get_set_ne _ _ _ _ (hb x (by simp))]
    · rcases g5 B hB with h' | ⟨y, hy, e', h1, h2⟩
      · rcases live_revive hpx.here h' with h'' | h''
        · exact .inl h''
        · exact .inr ⟨x, by simp, e, hpx.here, h''⟩
      · exact .inr ⟨y, by simp [hy], e', h1, h2⟩

theorem get_reserve (H : Heap) : ∀ (n i : Nat), (reserve H n).get i = if H.next ≤ i ∧ i < H.next + n then .dead else H.get i := by
  intro n
  induction n with
  | zero => intro i; simp [reserve]; omega
  | succ n ih =>
    intro i
    have hn : (reserve H n).next = H.next + n := by
      clear ih
      induction n with
      | zero => rfl
      | succ n ih => simp [reserve, ih]; omega
    simp only [reserve, Heap.get_push, hn, ih]
    by_cases h1 : i = H.next + n
    · subst h1; simp
    · rw [if_neg h1]
      by_cases h2 : H.next ≤ i ∧ i < H.next + n
      · rw [if_pos h2, if_pos (by omega)]
      · rw [if_neg h2, if_neg (by omega)]
theorem next_reserve (H : Heap) (n : Nat) : (reserve H n).next = H.next + n := by
  induction n with
  | zero => rfl
  | succ n ih => simp [reserve, ih]; omega
theorem HRel.reserve {H : Heap} (h : HRel m H w) (n : Nat) : HRel m (reserve H n) w ∧ Fr m H w m (X.reserve H n) w := by
  have hg : ∀ b e, m b = some e → (X.reserve H n).get b = H.get b := fun b e hb => by
    rw [get_reserve, if_neg (by have := h.lt hb; omega)]
  constructor
  · refine ⟨fun b hb => h.dom b (by rw [next_reserve] at hb; omega), fun b e hb => by rw [hg b e hb]; exact h.obj b e hb, fun b1 b2 e1 e2 hne hb1 hb2 ho hl => ?_⟩
    rw [hg b1 e1 hb1] at ho
    rw [hg b2 e2 hb2] at hl
    exact h.sep b1 b2 e1 e2 hne hb1 hb2 ho hl
  · refine ⟨Plan.le.refl m, by rw [next_reserve]; omega, rfl, rfl, rfl, Nat.le_refl _, fun _ _ _ => rfl, fun B _ ⟨b, e, hb, hB, ho⟩ => ⟨b, e, hb, hB, by rw [hg b e hb] at ho; exact ho⟩,
      fun B _ ⟨b, e, hb, hB, ho⟩ => ⟨b, e, hb, hB, by rw [hg b e hb] at ho; exact ho⟩, fun b hb hd => by rw [get_reserve, if_neg (by omega)]; exact hd, fun _ _ => rfl⟩

/-- A new block, its name not told yet. -/
theorem HRel.name {m0 : Plan} {H0 : Heap} {w0 : World} {V : Heap} (h : HRel m V w) (hf : Fr m0 H0 w0 m V w) {nm : Nat} (hn : nm < V.next) (hm : m nm = none) (hd : V.get nm = .dead) (h0 : H0.next ≤ nm)
    {r : NewRow} {c : Array Value} {t : TypeId} (hrel : LRel m r.cs c.toList) (h1 : ∀ v ∈ r.cs, v.oneCell' = true) :
    HRel (m.put nm ⟨⟨w.heap.size, 0, none⟩, c.size⟩) V (w.alloc (.cells c t)) ∧ Fr m0 H0 w0 (m.put nm ⟨⟨w.heap.size, 0, none⟩, c.size⟩) V (w.alloc (.cells c t)) ∧
    Pend (m.put nm ⟨⟨w.heap.size, 0, none⟩, c.size⟩) V (w.alloc (.cells c t)) w0.heap.size nm r ⟨⟨w.heap.size, 0, none⟩, c.size⟩ := by
  have hle : Plan.le m (m.put nm ⟨⟨w.heap.size, 0, none⟩, c.size⟩) := Plan.le_put _ hm
  have hold : ∀ k, k < w.heap.size → (w.alloc (.cells c t)).heap[k]? = w.heap[k]? := fun k hk => heap_alloc_old w _ k hk
  have hput : ∀ b e, (m.put nm ⟨⟨w.heap.size, 0, none⟩, c.size⟩) b = some e → (V.get b).liveB = true → m b = some e := fun b e hb hl => by
    by_cases hbn : b = nm
    · subst hbn; rw [hd] at hl; cases hl
    · rwa [Plan.put_ne _ _ _ _ hbn] at hb
  refine ⟨⟨fun b hb => ?_, fun b e hb => ?_, fun b1 b2 e1 e2 hne hb1 hb2 ho hl => h.sep b1 b2 e1 e2 hne (hput b1 e1 hb1 (AObj.live_of_own ho)) (hput b2 e2 hb2 hl) ho hl⟩, ?_, ?_⟩
  · rw [Plan.put_ne _ _ _ _ (by omega)]; exact h.dom b hb
  · by_cases hbn : b = nm
    · subst hbn; rw [hd]; trivial
    · rw [Plan.put_ne _ _ _ _ hbn] at hb
      exact (h.obj b e hb).keep hle (by simp) fun hl => hold _ (h.block_lt hb hl)
  · refine ⟨hf.le.trans hle, hf.next, hf.os, hf.tape, hf.output, by have := hf.size; simp; omega, fun B hB hno => (hold B (Nat.lt_of_lt_of_le hB hf.size)).trans (hf.keep B hB hno), fun B hB ⟨b, e, hb, hBe, ho⟩ => ?_, fun B hB ⟨b, e, hb, hBe, hl⟩ => ?_, hf.dead, fun b hb => ?_⟩
    · exact hf.own B hB ⟨b, e, hput b e hb (AObj.live_of_own ho), hBe, ho⟩
    · exact hf.live B hB ⟨b, e, hput b e hb hl, hBe, hl⟩
    · rw [Plan.put_ne _ _ _ _ (by omega)]; exact hf.old b hb
  · refine ⟨Plan.put_same _ _ _, hd, ⟨rfl, ⟨c, t, 0, 0, heap_alloc_new w _, rfl⟩, (by have := hrel.1; simp only [Array.length_toList] at this; exact Nat.le_of_eq this), fun i hi => ⟨c[i], ?_⟩, fun i v hv => ⟨h1 v (List.mem_of_getElem? hv), ?_⟩⟩, fun ⟨b, e, hb, hB, hl⟩ => ?_, hf.size⟩
    · rw [add_eq rfl, Nat.zero_add, World.cell?_alloc_new]; exact Array.getElem?_eq_getElem hi
    · obtain ⟨v', hv', hr⟩ := hrel.get hv
      exact ⟨v', by rw [add_eq rfl, Nat.zero_add, World.cell?_alloc_new]; simpa using hv', hr.mono hle⟩
    · have := h.block_lt (hput b e hb hl) hl
      simp only at hB
      omega

/-- One that waits goes on waiting, while others act. -/
theorem Pend.later {m' : Plan} {V' : Heap} {w' : World} {B0 nm : Nat} {r : NewRow} {e : Ent} (hp : Pend m V w B0 nm r e) (hf : Fr m V w m' V' w') (hn : nm < V.next) : Pend m' V' w' B0 nm r e := by
  have hlt : e.a.block < w.heap.size := hp.obj.2.1.lt
  have hsole : ¬ LiveAt m' V' e.a.block := fun hl => hp.sole (hf.live _ hlt hl)
  refine ⟨hf.le _ _ hp.here, hf.dead nm hn hp.dead, hp.obj.keep hf.le hf.size fun _ => hf.keep _ hlt fun ho => hp.sole ?_, hsole, hp.new⟩
  obtain ⟨b, e', hb, hB, ho⟩ := ho
  exact ⟨b, e', hb, hB, AObj.live_of_own ho⟩
theorem Pend.named {B0 nm : Nat} {r : NewRow} {e : Ent} (hp : Pend m V w B0 nm r e) {nm2 : Nat} (hne : nm ≠ nm2) (hm : m nm2 = none) (hd : V.get nm2 = .dead) {c : Array Value} {t : TypeId} :
    Pend (m.put nm2 ⟨⟨w.heap.size, 0, none⟩, c.size⟩) V (w.alloc (.cells c t)) B0 nm r e := by
  have hlt : e.a.block < w.heap.size := hp.obj.2.1.lt
  have hle : Plan.le m (m.put nm2 ⟨⟨w.heap.size, 0, none⟩, c.size⟩) := Plan.le_put _ hm
  refine ⟨hle _ _ hp.here, hp.dead, hp.obj.keep hle (by simp) fun _ => heap_alloc_old w _ _ hlt, fun ⟨b, e', hb, hB, hl⟩ => ?_, hp.new⟩
  by_cases hbn : b = nm2
  · subst hbn; rw [hd] at hl; cases hl
  · rw [Plan.put_ne _ _ _ _ hbn] at hb; exact hp.sole ⟨b, e', hb, hB, hl⟩
/-- One that waits, behind others being told of. -/
theorem Pend.beside {B0 nm : Nat} {r : NewRow} {e : Ent} (hp : Pend m V w B0 nm r e) {V' : Heap} (hg : V'.get nm = V.get nm) (hl : ∀ B, LiveAt m V' B → LiveAt m V B ∨ B ≠ e.a.block) : Pend m V' w B0 nm r e :=
  ⟨hp.here, by rw [hg]; exact hp.dead, hp.obj, fun h => by rcases hl _ h with h' | h'; exact hp.sole h'; exact h' rfl, hp.new⟩
end
end Go.X
