/- A region whose order is left open: one operation more; the whole of it. -/
import Derived.Test.YtomibdncbioijaaXzCoreM
set_option linter.unusedVariables false
set_option linter.unusedSimpArgs false
namespace Go.X
open Go Go.RowKit

section
variable {P : Program} {call : FuncId → List Value → Heap → Option (Value × Heap)} {ops : Array Oper} {b : Array Nat} {base : Nat} {ts0 : Ts} {H0 : Heap} {s : Nat → DS}
  {m0 : Plan} {H00 : Heap} {w0 : World} {d0 : List Deferred}

/-- A step that leaves the memory as it was told. -/
theorem Inv.quiet (r : Rn P call ops b base ts0 H0 s) {L : Nat → Bool} {a : Act} {w : World} {m : Plan} (h : Inv P ops b base ts0 s m0 H00 w0 d0 L a w m) {j : Nat} {o : Oper} (ho : ops[j]? = some o) (hr : Rdy ops b L j)
    (hs : serOf P ops j = false) (hw : wA P ops s j = false) {v' : Value} (hv : VRel m (s (j + 1)).v v') : Inv P ops b base ts0 s m0 H00 w0 d0 (addL L j) (a.put o.dst v') w m := by
  have hd : dstOf ops j = o.dst := by simp [dstOf, ho]
  have e1 := cnt_stay (P := P) (L := L) hs ops.size
  have e2 := lastL_stay (P := P) (L := L) hs ops.size
  have hL : ∀ k, addL L j k = true → wA P ops s k = true → L k = true := fun k hk hwk => by
    simp only [addL, Bool.or_eq_true, beq_iff_eq] at hk
    rcases hk with rfl | hk
    · rw [hw] at hwk; cases hwk
    · exact hk
  refine ⟨h.closed.add hr, by rw [e1]; exact h.heap, ?_, by rw [put_defers]; exact h.defers, by rw [e1]; exact h.fr, fun k hk hLk hwk hp => ?_, fun k l hk hl hwk hwl hpk hpl => ?_, fun k hk hwk hLk => ?_, fun k hk hwk => by rw [e1]; exact h.next k hk hwk⟩
  · rw [r.ord.put h.closed ho hr, hd]
    exact put_rel h.slots hv o.dst
  · rw [e1]; rw [e2] at hp; exact h.pend k hk (hL k hLk hwk) hwk hp
  · rw [e2] at hpk hpl; exact h.apart k l (hL k hk hwk) (hL l hl hwl) hwk hwl hpk hpl
  · rw [e1]
    refine h.idle k hk hwk ?_
    simp only [addL, Bool.or_eq_false_iff] at hLk
    exact hLk.2

/-- All that a serial one needs is told of. -/
theorem Inv.tell (r : Rn P call ops b base ts0 H0 s) (hbase : H00.next ≤ base) {L : Nat → Bool} {a : Act} {w : World} {m : Plan} (h : Inv P ops b base ts0 s m0 H00 w0 d0 L a w m) (i : Nat) (hi : i ≤ ops.size) (c : Option Nat)
    (hin : ∀ k, k < i → cur b c k = true → L k = true) :
    HRel m (setRows base ((s ops.size).G.getD (cnt (fun i => serOf P ops i && L i) ops.size) noHeap) (pickRows b (s i).rows c (lastL (fun i => serOf P ops i && L i) ops.size))) w ∧
    Fr m0 H00 w0 m (setRows base ((s ops.size).G.getD (cnt (fun i => serOf P ops i && L i) ops.size) noHeap) (pickRows b (s i).rows c (lastL (fun i => serOf P ops i && L i) ops.size))) w ∧
    (setRows base ((s ops.size).G.getD (cnt (fun i => serOf P ops i && L i) ops.size) noHeap) (pickRows b (s i).rows c (lastL (fun i => serOf P ops i && L i) ops.size))).next = ((s ops.size).G.getD (cnt (fun i => serOf P ops i && L i) ops.size) noHeap).next ∧
    (∀ k, k < ops.size → wA P ops s k = true → ¬ (k < i ∧ cur b c k = true ∧ was b (lastL (fun i => serOf P ops i && L i) ops.size) k = false) →
      (setRows base ((s ops.size).G.getD (cnt (fun i => serOf P ops i && L i) ops.size) noHeap) (pickRows b (s i).rows c (lastL (fun i => serOf P ops i && L i) ops.size))).get (base + k) = ((s ops.size).G.getD (cnt (fun i => serOf P ops i && L i) ops.size) noHeap).get (base + k)) ∧
    (∀ k e, k < ops.size → L k = true → wA P ops s k = true → was b (lastL (fun i => serOf P ops i && L i) ops.size) k = false → ¬ (k < i ∧ cur b c k = true) →
      Pend m ((s ops.size).G.getD (cnt (fun i => serOf P ops i && L i) ops.size) noHeap) w w0.heap.size (base + k) (rowOf P ops s k) e →
      Pend m (setRows base ((s ops.size).G.getD (cnt (fun i => serOf P ops i && L i) ops.size) noHeap) (pickRows b (s i).rows c (lastL (fun i => serOf P ops i && L i) ops.size))) w w0.heap.size (base + k) (rowOf P ops s k) e) := by
  have hmem : ∀ x ∈ pickRows b (s i).rows c (lastL (fun i => serOf P ops i && L i) ops.size), x.1 < i ∧ L x.1 = true ∧ wA P ops s x.1 = true ∧ x.2 = rowOf P ops s x.1 ∧ cur b c x.1 = true ∧ was b (lastL (fun i => serOf P ops i && L i) ops.size) x.1 = false := fun x hx => by
    obtain ⟨h1, h2, h3, h4, h5⟩ := (r.mem_pick hi).1 hx
    exact ⟨h1, hin _ h1 h4, h2, h3, h4, h5⟩
  obtain ⟨g1, g2, g3, g4, g5⟩ := reviveAll (base := base) hbase (pickRows b (s i).rows c (lastL (fun i => serOf P ops i && L i) ops.size)) _ h.heap h.fr (r.nodup_pick hi _ _)
    (fun x hx => by
      obtain ⟨h1, h2, h3, h4, h5, h6⟩ := hmem x hx
      rw [h4]; exact h.pend x.1 (by omega) h2 h3 h6)
    (fun x hx y hy hne e e' he he' => by
      obtain ⟨h1, h2, h3, h4, h5, h6⟩ := hmem x hx
      obtain ⟨k1, k2, k3, k4, k5, k6⟩ := hmem y hy
      exact h.apart x.1 y.1 h2 k2 h3 k3 h6 k6 hne e e' he he')
  refine ⟨g1, g2, g3, fun k hk hwk hno => ?_, fun k e hk hLk hwk hp hno hpend => ?_⟩
  · refine g4 _ fun x hx e => hno ?_
    obtain ⟨h1, h2, h3, h4, h5, h6⟩ := hmem x hx
    obtain rfl : k = x.1 := by omega
    exact ⟨h1, h5, h6⟩
  · refine hpend.beside (g4 _ fun x hx e => hno ?_) fun B hB => ?_
    · obtain ⟨h1, h2, h3, h4, h5, h6⟩ := hmem x hx
      obtain rfl : k = x.1 := by omega
      exact ⟨h1, h5⟩
    · rcases g5 B hB with h' | ⟨x, hx, e', he', rfl⟩
      · exact .inl h'
      · refine .inr ?_
        obtain ⟨h1, h2, h3, h4, h5, h6⟩ := hmem x hx
        refine h.apart x.1 k h2 hLk h3 hwk h6 hp ?_ e' e he' hpend.here
        rintro rfl
        exact hno ⟨h1, h5⟩

/-- A serial one, behind it. -/
theorem Inv.serial (r : Rn P call ops b base ts0 H0 s) (hbase : H00.next ≤ base) {L : Nat → Bool} {a : Act} {w : World} {m : Plan} (h : Inv P ops b base ts0 s m0 H00 w0 d0 L a w m) {j : Nat} {o : Oper} (ho : ops[j]? = some o) (hr : Rdy ops b L j)
    (hs : serOf P ops j = true) (hw : wA P ops s j = false) {H' : Heap} (hG : (s (j + 1)).G = (s j).G ++ [H']) {m' : Plan} {v' : Value} {w' : World} (hv : VRel m' (s (j + 1)).v v') (hH : HRel m' H' w')
    (hf : Fr m (setRows base ((s j).G.getLastD noHeap) (pickRows b (s j).rows (some j) (s j).prev)) w m' H' w') : Inv P ops b base ts0 s m0 H00 w0 d0 (addL L j) (a.put o.dst v') w' m' := by
  have hd : dstOf ops j = o.dst := by simp [dstOf, ho]
  have hj := hr.2.1
  have ec := r.ord.cnt_ready h.closed hr hs
  have el := lastL_ready r.ord h.closed hr hs
  have e1 := cnt_more hr hs
  have e2 := lastL_add r.ord h.closed hr hs
  obtain ⟨t1, t2, t3, t4, t5⟩ := h.tell r hbase j (Nat.le_of_lt hj) (some j) (fun k _ hk => hr.2.2 k hk)
  rw [r.last j (Nat.le_of_lt hj), r.prev j (Nat.le_of_lt hj), ← ec, ← el] at hf
  have hGn : (s ops.size).G.getD (cnt (fun i => serOf P ops i && addL L j i) ops.size) noHeap = H' := by
    rw [e1, ec]
    obtain ⟨q1, q2⟩ := r.G (j + 1) hj
    have hc : cnt (serOf P ops) (j + 1) = cnt (serOf P ops) j + 1 := by rw [cnt_succ, hs]; rfl
    rw [← hc, q2 _ (Nat.le_refl _), hG]
    obtain ⟨p1, _⟩ := r.G j (Nat.le_of_lt hj)
    rw [hc, List.getD_eq_getElem?_getD, List.getElem?_append_right (by omega), p1]
    simp
  have hL : ∀ k, addL L j k = true → wA P ops s k = true → L k = true := fun k hk hwk => by
    simp only [addL, Bool.or_eq_true, beq_iff_eq] at hk
    rcases hk with rfl | hk
    · rw [hw] at hwk; cases hwk
    · exact hk
  -- what waits behind it waited before it
  have hwas : ∀ k, was b (lastL (fun i => serOf P ops i && addL L j i) ops.size) k = false → bB b j k = false ∧ was b (lastL (fun i => serOf P ops i && L i) ops.size) k = false := by
    intro k hk
    rw [e2] at hk
    have hk' : bB b j k = false := hk
    refine ⟨hk', ?_⟩
    rw [el]
    cases hl : lastL (serOf P ops) j with
    | none => rfl
    | some p =>
      show bB b p k = false
      have hp : p < j ∧ serOf P ops p = true := by
        clear hf t1 t2 t3 t4 t5 el e2 hk hG
        have : ∀ n p, lastL (serOf P ops) n = some p → p < n ∧ serOf P ops p = true := by
          intro n
          induction n with
          | zero => intro p h; cases h
          | succ n ih =>
            intro p h
            unfold lastL at h
            split at h
            · rename_i hn; cases h; exact ⟨by omega, hn⟩
            · have := ih p h; exact ⟨by omega, this.2⟩
        exact this j p hl
      cases hb : bB b p k with
      | false => rfl
      | true => rw [r.ord.trans j o p k ho (r.ord.ser p j hp.1 hp.2 hs) hb] at hk'; cases hk'
  refine ⟨h.closed.add hr, by rw [hGn]; exact hH, ?_, by rw [put_defers]; exact h.defers, by rw [hGn]; exact t2.trans hf, fun k hk hLk hwk hp => ?_, fun k l hk hl hwk hwl hpk hpl hne e e' he he' => ?_, fun k hk hwk hLk => ?_, fun k hk hwk => ?_⟩
  · rw [r.ord.put h.closed ho hr, hd]
    exact put_rel (h.slots.mono hf.le) hv o.dst
  · obtain ⟨b1, b2⟩ := hwas k hp
    obtain ⟨e, hpe⟩ := h.pend k hk (hL k hLk hwk) hwk b2
    rw [hGn]
    exact ⟨e, (t5 k e hk (hL k hLk hwk) hwk b2 (fun ⟨_, hc⟩ => by rw [show cur b (some j) k = bB b j k from rfl, b1] at hc; cases hc) hpe).later hf (by rw [t3]; exact h.next k hk hwk)⟩
  · obtain ⟨b1, b2⟩ := hwas k hpk
    obtain ⟨c1, c2⟩ := hwas l hpl
    have hk' := (h.closed k (hL k hk hwk)).1
    have hl' := (h.closed l (hL l hl hwl)).1
    rw [hf.old _ (by rw [t3]; exact h.next k hk' hwk)] at he
    rw [hf.old _ (by rw [t3]; exact h.next l hl' hwl)] at he'
    exact h.apart k l (hL k hk hwk) (hL l hl hwl) hwk hwl b2 c2 hne e e' he he'
  · simp only [addL, Bool.or_eq_false_iff] at hLk
    obtain ⟨n1, n2⟩ := h.idle k hk hwk hLk.2
    rw [hGn, hf.old _ (by rw [t3]; exact h.next k hk hwk)]
    refine ⟨n1, hf.dead _ (by rw [t3]; exact h.next k hk hwk) ?_⟩
    rw [t4 k hk hwk (fun ⟨_, hc, _⟩ => by have := hr.2.2 k hc; rw [hLk.2] at this; cases this)]
    exact n2
  · rw [hGn]; exact Nat.lt_of_lt_of_le (by rw [t3]; exact h.next k hk hwk) hf.next

/-- One that makes memory, behind it. -/
theorem Inv.made (r : Rn P call ops b base ts0 H0 s) (hbase : H00.next ≤ base) {L : Nat → Bool} {a : Act} {w : World} {m : Plan} (h : Inv P ops b base ts0 s m0 H00 w0 d0 L a w m) {j : Nat} {o : Oper} (ho : ops[j]? = some o) (hr : Rdy ops b L j)
    (hs : serOf P ops j = false) (hw : wA P ops s j = true) {c : Array Value} {el : TypeId} {f : Nat → Value} (hA : Allocs P m a.eval o (rowOf P ops s j) c el f) (hv : (s (j + 1)).v = (rowOf P ops s j).val (base + j)) :
    Inv P ops b base ts0 s m0 H00 w0 d0 (addL L j) (a.put o.dst (f w.heap.size)) (w.alloc (.cells c el)) (m.put (base + j) ⟨⟨w.heap.size, 0, none⟩, c.size⟩) := by
  have hd : dstOf ops j = o.dst := by simp [dstOf, ho]
  have hj := hr.2.1
  have e1 := cnt_stay (P := P) (L := L) hs ops.size
  have e2 := lastL_stay (P := P) (L := L) hs ops.size
  obtain ⟨n1, n2⟩ := h.idle j hj hw hr.1
  obtain ⟨g1, g2, g3⟩ := HRel.name (r := rowOf P ops s j) (t := el) h.heap h.fr (h.next j hj hw) n1 n2 (by omega) hA.rel hA.one
  have hle : Plan.le m (m.put (base + j) ⟨⟨w.heap.size, 0, none⟩, c.size⟩) := Plan.le_put _ n1
  have hL : ∀ k, addL L j k = true → k ≠ j → L k = true := fun k hk hkj => by simpa [addL, hkj] using hk
  refine ⟨h.closed.add hr, by rw [e1]; exact g1, ?_, by rw [put_defers]; exact h.defers, by rw [e1]; exact g2, fun k hk hLk hwk hp => ?_, fun k l hk hl hwk hwl hpk hpl hne e e' he he' => ?_, fun k hk hwk hLk => ?_, fun k hk hwk => by rw [e1]; exact h.next k hk hwk⟩
  · rw [r.ord.put h.closed ho hr, hd]
    refine put_rel (h.slots.mono hle) ?_ o.dst
    rw [hv]
    exact hA.val _ _ _ (Plan.put_same _ _ _)
  · rw [e1]; rw [e2] at hp
    by_cases hkj : k = j
    · subst hkj; exact ⟨_, g3⟩
    · obtain ⟨e, he⟩ := h.pend k hk (hL k hLk hkj) hwk hp
      exact ⟨e, he.named (by omega) n1 n2⟩
  · rw [e2] at hpk hpl
    by_cases hkj : k = j
    · subst hkj
      have hlk : l ≠ k := Ne.symm hne
      rw [Plan.put_same] at he; cases he
      rw [Plan.put_ne _ _ _ _ (by omega)] at he'
      obtain ⟨e2', hp2⟩ := h.pend l (h.closed l (hL l hl hlk)).1 (hL l hl hlk) hwl hpl
      rw [hp2.here] at he'; cases he'
      have := hp2.obj.2.1.lt
      simp only; omega
    · by_cases hlj : l = j
      · subst hlj
        rw [Plan.put_same] at he'; cases he'
        rw [Plan.put_ne _ _ _ _ (by omega)] at he
        obtain ⟨e2', hp2⟩ := h.pend k (h.closed k (hL k hk hkj)).1 (hL k hk hkj) hwk hpk
        rw [hp2.here] at he; cases he
        have := hp2.obj.2.1.lt
        simp only; omega
      · rw [Plan.put_ne _ _ _ _ (by omega)] at he he'
        exact h.apart k l (hL k hk hkj) (hL l hl hlj) hwk hwl hpk hpl hne e e' he he'
  · rw [e1]
    simp only [addL, Bool.or_eq_false_iff, beq_eq_false_iff_ne] at hLk
    rw [Plan.put_ne _ _ _ _ (by omega)]
    exact h.idle k hk hwk hLk.2
end
end Go.X
