/- The heap's relation to a world: reading, writing, new rows. -/
import Derived.Test.YtomibdncbioijaaXzCoreA
import Derived.Laws.Cells
set_option linter.unusedVariables false
set_option linter.unusedSimpArgs false
namespace Go.X
open Go Go.RowKit

theorem add_block (a : Addr) (n : Nat) : (a.add n).block = a.block := by unfold Addr.add; split <;> rfl
theorem add_zero (a : Addr) : a.add 0 = a := by simp [Addr.add]
theorem add_add (a : Addr) (i j : Nat) : (a.add i).add j = a.add (i + j) := by
  unfold Addr.add
  by_cases hi : i = 0
  · subst hi; simp
  · by_cases hj : j = 0
    · subst hj; simp [hi]
    · have : ¬ i + j = 0 := by omega
      simp [hi, hj, this, Nat.add_assoc]
theorem add_inj {a : Addr} {i j : Nat} (hs : a.spot = none) (h : a.add i = a.add j) : i = j := by
  have h1 : (a.add i).off = a.off + i := by unfold Addr.add; split <;> simp_all
  have h2 : (a.add j).off = a.off + j := by unfold Addr.add; split <;> simp_all
  have := congrArg Addr.off h
  omega
theorem add_spot {a : Addr} (hs : a.spot = none) (i : Nat) : (a.add i).spot = none := by unfold Addr.add; split <;> simp_all
theorem add_eq {a : Addr} (hs : a.spot = none) (i : Nat) : a.add i = ⟨a.block, a.off + i, none⟩ := by
  unfold Addr.add; split
  · rename_i h; subst h; cases a; simp_all
  · rfl

def AObj.ownB : AObj → Bool
  | .row _ o => o
  | .map _ => true
  | .dead => false
def AObj.liveB : AObj → Bool
  | .dead => false
  | .row [] false => false
  | _ => true
theorem AObj.live_of_own {o : AObj} (h : o.ownB = true) : o.liveB = true := by
  cases o with
  | dead => cases h
  | row cs own => simp [AObj.ownB] at h; subst h; cases cs <;> rfl
  | map es => rfl

/-- What the row's cells are. -/
def CellsRel (m : Plan) (w : World) (a : Addr) (cs : List Value) : Prop :=
  ∀ (i : Nat) (v : Value), cs[i]? = some v → v.oneCell' = true ∧ ∃ v', w.cell? (a.add i) = some v' ∧ VRel m v v'

/-- Nothing of the block is marked. -/
def Unfrozen (w : World) (B : Nat) : Prop := ∃ c el lo hi, w.heap[B]? = some (.cells c el (lo, hi)) ∧ lo = hi
theorem Unfrozen.lt {w : World} {B : Nat} (h : Unfrozen w B) : B < w.heap.size := by
  obtain ⟨c, el, lo, hi, hh, _⟩ := h
  exact (Array.getElem?_eq_some_iff.1 hh).1
theorem Unfrozen.frozen {w : World} {a : Addr} (h : Unfrozen w a.block) {u : Value} (hu : w.cell? a = some u) : w.frozen? a = false := by
  obtain ⟨c, el, lo, hi, hh, hr⟩ := h
  simp only [World.cell?, hh] at hu
  split at hu
  · cases hu
  · have hlt := (Array.getElem?_eq_some_iff.1 hu).1
    simp only [World.frozen?, hh]
    subst hr
    simp
theorem Unfrozen.noMark {w : World} {a : Addr} (h : Unfrozen w a.block) : w.frozen? a = false := by
  obtain ⟨c, el, lo, hi, hh, rfl⟩ := h
  simp [World.frozen?, hh]
theorem Unfrozen.keep {w w' : World} {B : Nat} (h : Unfrozen w B) (hb : w'.heap[B]? = w.heap[B]?) : Unfrozen w' B := by
  obtain ⟨c, el, lo, hi, hh, hr⟩ := h
  exact ⟨c, el, lo, hi, by rw [hb]; exact hh, hr⟩
theorem Unfrozen.setCell {w : World} {B : Nat} (h : Unfrozen w B) (a : Addr) (v : Value) : Unfrozen (w.setCell a v) B := by
  obtain ⟨c, el, lo, hi, hh, hr⟩ := h
  by_cases hb : a.block = B
  · subst hb
    exact ⟨if a.spot.isSome then c else c.setIfInBounds a.off v, el, lo, hi, by simp [World.setCell, Array.getElem?_modify, hh], hr⟩
  · exact ⟨c, el, lo, hi, by rw [Below.heap_setCell _ _ _ _ (Ne.symm hb)]; exact hh, hr⟩

def ORel (m : Plan) (w : World) (e : Ent) : AObj → Prop
  | .dead => True
  | .row cs true => e.a.spot = none ∧ Unfrozen w e.a.block ∧ cs.length ≤ e.cells ∧
      (∀ i, i < e.cells → ∃ u, w.cell? (e.a.add i) = some u) ∧ CellsRel m w e.a cs
  | .row cs false => CellsRel m w e.a cs
  | .map es => e.a.spot = none ∧ e.a.off = 0 ∧ ∃ ents clock, w.heap[e.a.block]? = some (.map ents clock) ∧
      LRel m (es.map (·.1)) (ents.toList.map (·.key)) ∧ LRel m (es.map (·.2)) (ents.toList.map (·.val))

structure HRel (m : Plan) (H : Heap) (w : World) : Prop where
  dom : ∀ b, H.next ≤ b → m b = none
  obj : ∀ b e, m b = some e → ORel m w e (H.get b)
  sep : ∀ b1 b2 e1 e2, b1 ≠ b2 → m b1 = some e1 → m b2 = some e2 → (H.get b1).ownB = true → (H.get b2).liveB = true → e1.a.block ≠ e2.a.block

def Owned (m : Plan) (H : Heap) (B : Nat) : Prop := ∃ b e, m b = some e ∧ e.a.block = B ∧ (H.get b).ownB = true

def LiveAt (m : Plan) (H : Heap) (B : Nat) : Prop := ∃ b e, m b = some e ∧ e.a.block = B ∧ (H.get b).liveB = true

structure Fr (m : Plan) (H : Heap) (w : World) (m' : Plan) (H' : Heap) (w' : World) : Prop where
  le : Plan.le m m'
  next : H.next ≤ H'.next
  os : w'.os = w.os
  tape : w'.tape = w.tape
  output : w'.output = w.output
  size : w.heap.size ≤ w'.heap.size
  keep : ∀ B, B < w.heap.size → ¬ Owned m H B → w'.heap[B]? = w.heap[B]?
  own : ∀ B, B < w.heap.size → Owned m' H' B → Owned m H B
  live : ∀ B, B < w.heap.size → LiveAt m' H' B → LiveAt m H B
  dead : ∀ b, b < H.next → H.get b = .dead → H'.get b = .dead
  old : ∀ b, b < H.next → m' b = m b

theorem Fr.refl (m : Plan) (H : Heap) (w : World) : Fr m H w m H w :=
  ⟨Plan.le.refl m, Nat.le_refl _, rfl, rfl, rfl, Nat.le_refl _, fun _ _ _ => rfl, fun _ _ h => h, fun _ _ h => h, fun _ _ h => h, fun _ _ => rfl⟩
theorem Fr.trans {m m1 m2 : Plan} {H H1 H2 : Heap} {w w1 w2 : World} (h : Fr m H w m1 H1 w1) (k : Fr m1 H1 w1 m2 H2 w2) : Fr m H w m2 H2 w2 :=
  ⟨h.le.trans k.le, Nat.le_trans h.next k.next, k.os.trans h.os, k.tape.trans h.tape, k.output.trans h.output, Nat.le_trans h.size k.size,
   fun B hB ho => (k.keep B (Nat.lt_of_lt_of_le hB h.size) fun h' => ho (h.own B hB h')).trans (h.keep B hB ho),
   fun B hB ho => h.own B hB (k.own B (Nat.lt_of_lt_of_le hB h.size) ho), fun B hB ho => h.live B hB (k.live B (Nat.lt_of_lt_of_le hB h.size) ho),
   fun b hb hd => k.dead b (Nat.lt_of_lt_of_le hb h.next) (h.dead b hb hd), fun b hb => (k.old b (Nat.lt_of_lt_of_le hb h.next)).trans (h.old b hb)⟩
theorem Fr.below {m m' : Plan} {H H' : Heap} {w w' : World} (h : Fr m H w m' H' w') (hno : ∀ b, (H.get b).ownB = true → m b = none) : Below w.heap.size w w' :=
  ⟨h.os, h.tape, h.output, h.size, fun k hk => h.keep k hk fun ⟨b, e, hb, _, ho⟩ => by rw [hno b ho] at hb; cases hb⟩

theorem CellsRel.keep {m m' : Plan} {w w' : World} {a : Addr} {cs : List Value} (hm : Plan.le m m') (hb : cs ≠ [] → w'.heap[a.block]? = w.heap[a.block]?) (h : CellsRel m w a cs) : CellsRel m' w' a cs := by
  intro i v hv
  obtain ⟨h1, v', hc, hr⟩ := h i v hv
  have hne : cs ≠ [] := by rintro rfl; simp at hv
  exact ⟨h1, v', by rw [World.cell?_of_block (w := w) (by rw [add_block]; exact hb hne)]; exact hc, hr.mono hm⟩

theorem ORel.keep {m m' : Plan} {w w' : World} {e : Ent} {o : AObj} (hm : Plan.le m m') (hs : w.heap.size ≤ w'.heap.size)
    (hb : o.liveB = true → w'.heap[e.a.block]? = w.heap[e.a.block]?) (h : ORel m w e o) : ORel m' w' e o := by
  cases o with
  | dead => trivial
  | row cs own =>
    cases own with
    | true =>
      have hb := hb (by cases cs <;> rfl)
      obtain ⟨h1, h2, h3, h4, h5⟩ := h
      refine ⟨h1, h2.keep hb, h3, fun i hi => ?_, h5.keep hm fun _ => hb⟩
      obtain ⟨u, hu⟩ := h4 i hi
      exact ⟨u, by rw [World.cell?_of_block (w := w) (by rw [add_block]; exact hb)]; exact hu⟩
    | false => exact CellsRel.keep hm (fun hne => hb (by cases cs <;> first | exact absurd rfl hne | rfl)) h
  | map es =>
    obtain ⟨h1, h2, ents, clock, h3, h4, h5⟩ := h
    exact ⟨h1, h2, ents, clock, by rw [hb rfl]; exact h3, h4.mono hm, h5.mono hm⟩

/-- A world that is alike but for a draw. -/
theorem HRel.drew {m : Plan} {H : Heap} {w : World} (h : HRel m H w) : HRel m H w.drew := ⟨h.dom, h.obj, h.sep⟩
theorem Fr.drew (m : Plan) (H : Heap) (w : World) : Fr m H w m H w.drew := ⟨Plan.le.refl m, Nat.le_refl _, rfl, rfl, rfl, Nat.le_refl _, fun _ _ _ => rfl, fun _ _ h => h, fun _ _ h => h, fun _ _ h => h, fun _ _ => rfl⟩

/-- Reading. -/
theorem HRel.cells {m : Plan} {H : Heap} {w : World} (h : HRel m H w) {b : Nat} {e : Ent} {cs : List Value} {own : Bool} (hb : m b = some e) (hg : H.get b = .row cs own) : CellsRel m w e.a cs := by
  have := h.obj b e hb
  rw [hg] at this
  cases own with
  | true => exact this.2.2.2.2
  | false => exact this
theorem CellsRel.read {m : Plan} {w : World} {a : Addr} {cs : List Value} (h : CellsRel m w a cs) (o n : Nat) (hn : o + n ≤ cs.length) :
    ∃ vs', (∀ j v, vs'[j]? = some v → w.cell? ((a.add o).add j) = some v) ∧ LRel m ((cs.drop o).take n) vs' ∧ vs'.length = n := by
  induction n with
  | zero => exact ⟨[], fun j v h => by simp at h, by simp [LRel], rfl⟩
  | succ n ih =>
    obtain ⟨vs', h1, h2, h3⟩ := ih (by omega)
    have hlt : o + n < cs.length := by omega
    obtain ⟨_, v', hc, hr⟩ := h (o + n) _ (List.getElem?_eq_getElem hlt)
    refine ⟨vs' ++ [v'], fun j v hj => ?_, ?_, by simp [h3]⟩
    · rw [List.getElem?_append] at hj
      split at hj
      · exact h1 j v hj
      · rename_i hge
        rw [h3] at hj hge
        have : j - n = 0 := by
          rcases Nat.eq_zero_or_pos (j - n) with h | h
          · exact h
          · rw [List.getElem?_eq_none (by simp; omega)] at hj; cases hj
        have hjn : j = n := by omega
        subst hjn
        simp at hj
        subst hj
        rw [add_add]
        exact hc
    · have : (cs.drop o).take (n + 1) = (cs.drop o).take n ++ [cs[o + n]] := by
        rw [List.take_succ_eq_append_getElem (by simp; omega)]
        simp
      rw [this]
      exact h2.append (LRel.cons hr (LRel.nil m))

/-- A new row. -/
def Plan.put (m : Plan) (b : Nat) (e : Ent) : Plan := fun i => if i = b then some e else m i
theorem Plan.put_same (m : Plan) (b : Nat) (e : Ent) : m.put b e b = some e := by simp [Plan.put]
theorem Plan.put_ne (m : Plan) (b : Nat) (e : Ent) (i : Nat) (h : i ≠ b) : m.put b e i = m i := by simp [Plan.put, h]
theorem Plan.le_put {m : Plan} {b : Nat} (e : Ent) (h : m b = none) : Plan.le m (m.put b e) := by
  intro i x hi
  by_cases hib : i = b
  · subst hib; rw [h] at hi; cases hi
  · rw [Plan.put_ne _ _ _ _ hib]; exact hi
theorem HRel.fresh {m : Plan} {H : Heap} {w : World} (h : HRel m H w) : m H.next = none := h.dom _ (Nat.le_refl _)
theorem HRel.lt {m : Plan} {H : Heap} {w : World} (h : HRel m H w) {b : Nat} {e : Ent} (hb : m b = some e) : b < H.next := by
  rcases Nat.lt_or_ge b H.next with h' | h'
  · exact h'
  · rw [h.dom b h'] at hb; cases hb
theorem HRel.block_lt {m : Plan} {H : Heap} {w : World} (h : HRel m H w) {b : Nat} {e : Ent} (hb : m b = some e) (hl : (H.get b).liveB = true) : e.a.block < w.heap.size := by
  have ho := h.obj b e hb
  cases hg : H.get b with
  | dead => rw [hg] at hl; cases hl
  | row cs own =>
    rw [hg] at ho hl
    cases own with
    | true => exact ho.2.1.lt
    | false =>
      cases cs with
      | nil => cases hl
      | cons v cs =>
        obtain ⟨_, v', hc, _⟩ := ho 0 v rfl
        have := World.block_lt_of_cell? (w := w) _ hc
        rwa [add_block] at this
  | map es =>
    rw [hg] at ho
    obtain ⟨_, _, ents, clock, hh, _⟩ := ho
    exact (Array.getElem?_eq_some_iff.1 hh).1

theorem HRel.alloc {m : Plan} {H : Heap} {w : World} (h : HRel m H w) (cs : List Value) (c : Array Value) (t : TypeId) (hl : cs.length ≤ c.size)
    (hr : ∀ (i : Nat) (v v' : Value), cs[i]? = some v → c[i]? = some v' → VRel m v v') (h1 : ∀ v ∈ cs, v.oneCell' = true) :
    HRel (m.put H.next ⟨⟨w.heap.size, 0, none⟩, c.size⟩) (H.push (.row cs true)) (w.alloc (.cells c t)) ∧
    Fr m H w (m.put H.next ⟨⟨w.heap.size, 0, none⟩, c.size⟩) (H.push (.row cs true)) (w.alloc (.cells c t)) := by
  have hle := Plan.le_put (b := H.next) ⟨⟨w.heap.size, 0, none⟩, c.size⟩ h.fresh
  have hold : ∀ k, k < w.heap.size → (w.alloc (.cells c t)).heap[k]? = w.heap[k]? := fun k hk => heap_alloc_old w _ k hk
  have hcell : ∀ i, (w.alloc (.cells c t)).cell? ((⟨w.heap.size, 0, none⟩ : Addr).add i) = c[i]? := fun i => by
    rw [add_eq rfl, Nat.zero_add]; exact World.cell?_alloc_new w c t i
  constructor
  · refine ⟨fun b hb => ?_, fun b e hb => ?_, fun b1 b2 e1 e2 hne hb1 hb2 ho1 hl2 => ?_⟩
    · rw [Heap.next_push] at hb
      rw [Plan.put_ne _ _ _ _ (by omega)]
      exact h.dom b (by omega)
    · by_cases hbn : b = H.next
      · subst hbn
        rw [Plan.put_same] at hb
        cases hb
        rw [Heap.get_push_same]
        refine ⟨rfl, ⟨c, t, 0, 0, heap_alloc_new w _, rfl⟩, hl, fun i hi => ⟨c[i], ?_⟩, fun i v hv => ⟨h1 v (List.mem_of_getElem? hv), ?_⟩⟩
        · rw [hcell]; exact Array.getElem?_eq_getElem hi
        · have hi : i < c.size := by have := (List.getElem?_eq_some_iff.1 hv).1; omega
          exact ⟨c[i], by rw [hcell]; exact Array.getElem?_eq_getElem hi, (hr i v _ hv (Array.getElem?_eq_getElem hi)).mono hle⟩
      · rw [Plan.put_ne _ _ _ _ hbn] at hb
        rw [Heap.get_push_ne _ _ _ hbn]
        exact (h.obj b e hb).keep hle (by simp) fun hlv => hold _ (h.block_lt hb hlv)
    · by_cases h1n : b1 = H.next
      · subst h1n
        rw [Plan.put_same] at hb1; cases hb1
        have h2n : b2 ≠ H.next := fun e => hne e.symm
        rw [Plan.put_ne _ _ _ _ h2n] at hb2
        rw [Heap.get_push_ne _ _ _ h2n] at hl2
        have := h.block_lt hb2 hl2
        simp; omega
      · rw [Plan.put_ne _ _ _ _ h1n] at hb1
        rw [Heap.get_push_ne _ _ _ h1n] at ho1
        by_cases h2n : b2 = H.next
        · subst h2n
          rw [Plan.put_same] at hb2; cases hb2
          have := h.block_lt hb1 (AObj.live_of_own ho1)
          simp; omega
        · rw [Plan.put_ne _ _ _ _ h2n] at hb2
          rw [Heap.get_push_ne _ _ _ h2n] at hl2
          exact h.sep b1 b2 e1 e2 hne hb1 hb2 ho1 hl2
  · refine ⟨hle, by simp, rfl, rfl, rfl, by simp, fun B hB _ => hold B hB, fun B hB ho => ?_, fun B hB ho => ?_, fun b hb hd => by rw [Heap.get_push_ne _ _ _ (by omega)]; exact hd, fun b hb => Plan.put_ne _ _ _ _ (by omega)⟩
    all_goals
      obtain ⟨b, e, hb, he, ho⟩ := ho
      by_cases hbn : b = H.next
      · subst hbn; rw [Plan.put_same] at hb; cases hb; simp at he; omega
      · rw [Plan.put_ne _ _ _ _ hbn] at hb; rw [Heap.get_push_ne _ _ _ hbn] at ho
        exact ⟨b, e, hb, he, ho⟩

/-- Writing: the world differs in one owned block alone. -/
theorem HRel.write {m : Plan} {H : Heap} {w w' : World} (h : HRel m H w) {b : Nat} {e : Ent} (hb : m b = some e) (ho : (H.get b).ownB = true) (o : AObj)
    (hobj : ORel m w' e o) (hown : o.ownB = true) (hsz : w'.heap.size = w.heap.size) (hoth : ∀ k, k ≠ e.a.block → w'.heap[k]? = w.heap[k]?)
    (hos : w'.os = w.os) (htape : w'.tape = w.tape) (hout : w'.output = w.output) : HRel m (H.set b o) w' ∧ Fr m H w m (H.set b o) w' := by
  constructor
  · refine ⟨fun i hi => h.dom i hi, fun i ei hi => ?_, fun b1 b2 e1 e2 hne hb1 hb2 ho1 hl2 => ?_⟩
    · by_cases hib : i = b
      · subst hib; rw [hb] at hi; cases hi; rw [Heap.get_set_same]; exact hobj
      · rw [Heap.get_set_ne _ _ _ _ hib]
        exact (h.obj i ei hi).keep (Plan.le.refl m) (by omega) fun hl => hoth _ (h.sep b i e ei (Ne.symm hib) hb hi ho hl).symm
    · have k1 : (H.get b1).ownB = true := by
        by_cases h1 : b1 = b
        · subst h1; exact ho
        · rw [Heap.get_set_ne _ _ _ _ h1] at ho1; exact ho1
      have k2 : (H.get b2).liveB = true := by
        by_cases h2 : b2 = b
        · subst h2; exact AObj.live_of_own ho
        · rw [Heap.get_set_ne _ _ _ _ h2] at hl2; exact hl2
      exact h.sep b1 b2 e1 e2 hne hb1 hb2 k1 k2
  · refine ⟨Plan.le.refl m, Nat.le_refl _, hos, htape, hout, by omega, fun B hB hno => hoth B fun hBe => hno ⟨b, e, hb, hBe.symm, ho⟩, fun B hB hO => ?_, fun B hB hO => ?_, fun i hi hd => by
      have hib : i ≠ b := by rintro rfl; rw [hd] at ho; cases ho
      rw [Heap.get_set_ne _ _ _ _ hib]; exact hd, fun _ _ => rfl⟩
    all_goals
      obtain ⟨i, ei, hi, he, hio⟩ := hO
      by_cases hib : i = b
      · subst hib; exact ⟨i, ei, hi, he, by first | exact ho | exact AObj.live_of_own ho⟩
      · rw [Heap.get_set_ne _ _ _ _ hib] at hio; exact ⟨i, ei, hi, he, hio⟩

def setMany (cs : List Value) (o : Nat) : List Value → List Value
  | [] => cs
  | v :: vs => setMany (cs.set o v) (o + 1) vs
theorem setMany_length (vs : List Value) : ∀ (cs : List Value) (o : Nat), (setMany cs o vs).length = cs.length := by
  induction vs with
  | nil => intro cs o; rfl
  | cons v vs ih => intro cs o; simp [setMany, ih]

/-- Storing cells one by one, within the block. -/
theorem run_storeCells_x {P : Program} {m : Plan} {a : Addr} (hs : a.spot = none) : ∀ (vs vs' : List Value) (cs : List Value) (o i : Nat) (w : World) (n : Nat),
    LRel m vs vs' → (∀ v ∈ vs, v.oneCell' = true) → o + i + vs.length ≤ n →
    (∀ j, j < n → ∃ u, w.cell? (a.add j) = some u) → CellsRel m w a cs → Unfrozen w a.block →
    ∃ w', (storeCells (a.add o) vs' i).run P w = .ok () w' ∧ w'.heap.size = w.heap.size ∧ (∀ k, k ≠ a.block → w'.heap[k]? = w.heap[k]?) ∧ w'.os = w.os ∧ w'.tape = w.tape ∧ w'.output = w.output ∧
      (∀ j, j < n → ∃ u, w'.cell? (a.add j) = some u) ∧ Unfrozen w' a.block ∧ CellsRel m w' a (setMany cs (o + i) vs) ∧
      (∀ j, (j < o + i ∨ o + i + vs.length ≤ j) → w'.cell? (a.add j) = w.cell? (a.add j)) ∧ (∀ j v', vs'[j]? = some v' → w'.cell? (a.add (o + i + j)) = some v') := by
  intro vs
  induction vs with
  | nil =>
    intro vs' cs o i w n hr _ _ hc hcs huf
    have : vs' = [] := List.eq_nil_of_length_eq_zero (by rw [← hr.1]; rfl)
    subst this
    exact ⟨w, rfl, rfl, fun _ _ => rfl, rfl, rfl, rfl, hc, huf, hcs, fun _ _ => rfl, fun j v' h => by simp at h⟩
  | cons v vs ih =>
    intro vs' cs o i w n hr h1 hn hc hcs hlt
    cases vs' with
    | nil => have := hr.1; simp at this
    | cons v' vs' =>
      have hv1 : v'.oneCell' = true := by rw [hr.head.oneCell]; exact h1 v (by simp)
      simp only [List.length_cons] at hn
      obtain ⟨u, hu⟩ := hc (o + i) (by omega)
      have hf : w.frozen? (a.add (o + i)) = false := Unfrozen.frozen (by rw [add_block]; exact hlt) hu
      have hput : (store ((a.add o).add i) v').run P w = .ok () (w.setCell (a.add (o + i)) v') := by
        rw [run_store P w _ _ _ hv1, add_add, hu]; simp [hf]
      have hne : ∀ j, j ≠ o + i → (w.setCell (a.add (o + i)) v').cell? (a.add j) = w.cell? (a.add j) := fun j hj =>
        World.cell?_setCell_other w _ _ _ fun e => hj (add_inj hs e).symm
      have hsame := World.cell?_setCell_same w _ v' hu
      have hc' : ∀ j, j < n → ∃ u, (w.setCell (a.add (o + i)) v').cell? (a.add j) = some u := fun j hj => by
        by_cases hji : j = o + i
        · subst hji; exact ⟨_, hsame⟩
        · rw [hne j hji]; exact hc j hj
      have hcs' : CellsRel m (w.setCell (a.add (o + i)) v') a (cs.set (o + i) v) := fun j x hx => by
        rw [List.getElem?_set] at hx
        by_cases hji : o + i = j
        · subst hji
          rw [if_pos rfl] at hx
          split at hx
          · cases hx; exact ⟨h1 v (by simp), v', hsame, hr.head⟩
          · cases hx
        · rw [if_neg hji] at hx
          obtain ⟨a1, x', a2, a3⟩ := hcs j x hx
          exact ⟨a1, x', by rw [hne j (Ne.symm hji)]; exact a2, a3⟩
      have hlt' : Unfrozen (w.setCell (a.add (o + i)) v') a.block := hlt.setCell _ _
      obtain ⟨w', hrun, hsz, hoth, hos, htape, hout, hcells, huf, hrel, hkeep, hnew⟩ := ih vs' (cs.set (o + i) v) o (i + 1) _ n hr.tail (fun x hx => h1 x (by simp [hx])) (by omega) hc' hcs' hlt'
      refine ⟨w', ?_, by rw [hsz, World.size_setCell], fun k hk => ?_, hos, htape, hout, hcells, huf, by simpa [setMany, Nat.add_assoc] using hrel, fun j hj => ?_, fun j x hx => ?_⟩
      · simp only [storeCells, Sem.run_bind, hput, Result.andThen_ok, hrun]
      · rw [hoth k hk]; exact Below.heap_setCell _ _ _ _ (by rw [add_block]; exact hk)
      · rw [hkeep j (by simp only [List.length_cons] at hj; omega)]
        exact hne j (by simp only [List.length_cons] at hj; omega)
      · cases j with
        | zero => simp at hx; subst hx; rw [Nat.add_zero, hkeep _ (.inl (by omega))]; exact hsame
        | succ j => have := hnew j x (by simpa using hx); rwa [show o + (i + 1) + j = o + i + (j + 1) by omega] at this
end Go.X
