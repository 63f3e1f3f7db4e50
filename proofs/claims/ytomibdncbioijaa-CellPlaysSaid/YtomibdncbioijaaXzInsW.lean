/- slices.Insert of one cell stands for the model's: the joining. -/
import Derived.Test.YtomibdncbioijaaXzInsV
set_option linter.unusedVariables false
set_option linter.unusedSimpArgs false
set_option maxRecDepth 20000
namespace Go.X
open Go Go.RowKit Go.Proofs Go.Lib
section
variable {m : Plan} {H : Heap} {w : World} {b o n b2 o2 k2 i c' vc : Nat} {cs cs2 : List Value} {own2 : Bool} {e e2 : Ent}
theorem ins_room_ok (mixed : Try.prog.follows .mixedOrders = true) (hH : HRel m H w) (hb : m b = some e) (hg : H.get b = .row cs true) (hb2 : m b2 = some e2) (hg2 : H.get b2 = .row cs2 true) (hne : b ≠ b2) (hi : i < n) (hn : n ≤ 1000) (hcs : o + n * 5 ≤ cs.length) (hcs2 : o2 + 5 ≤ cs2.length)
    (hnc : n + 1 ≤ c') (hc' : c' ≤ maxLen) (hcap : o + c' * 5 = e.cells) :
    CallR Try.prog m H w 43 #[.slice (some (e.a.add o)) n c', .int .i64 i, .slice (some (e2.a.add o2)) 1 vc] (.slice (some ⟨H.next, 0, none⟩) (n + 1) (UNK 5)) ((H.set b .dead).push (.row ((cs.drop o).take (i * 5) ++ (cs2.drop o2).take 5 ++ ((cs.drop o).take (n * 5)).drop (i * 5)) true)) := by
  obtain ⟨ii, hi1, hz, hsz, hby⟩ := info26
  have hO := hH.obj b e hb
  rw [hg] at hO
  obtain ⟨o1, oU, o3, o4, o5⟩ := hO
  have hO2 := hH.obj b2 e2 hb2
  rw [hg2] at hO2
  obtain ⟨p1, pU, p3, p4, p5⟩ := hO2
  have hbl : e2.a.block ≠ e.a.block := (hH.sep b b2 e e2 hne hb hb2 (by rw [hg]; rfl) (by rw [hg2]; cases cs2 <;> rfl)).symm
  have eA : ∀ x, e.a.add x = ⟨e.a.block, e.a.off + x, none⟩ := fun x => add_eq o1 x
  have hm63 : c' ≤ 9223372036854775807 := by unfold maxLen at hc'; omega
  -- what is moved, what is put in
  obtain ⟨T', t1, t2, t3⟩ := o5.read (o + i * 5) ((n - i) * 5) (by omega)
  obtain ⟨V', v1, v2, v3⟩ := p5.read o2 5 hcs2
  have hTl : ((cs.drop (o + i * 5)).take ((n - i) * 5)).length = (n - i) * 5 := by rw [List.length_take, List.length_drop]; omega
  have hVl : ((cs2.drop o2).take 5).length = 5 := by rw [List.length_take, List.length_drop]; omega
  have hT1 : ∀ v ∈ (cs.drop (o + i * 5)).take ((n - i) * 5), v.oneCell' = true := fun v hv => by
    obtain ⟨j, hj⟩ := List.getElem?_of_mem (List.mem_of_mem_drop (List.mem_of_mem_take hv)); exact (o5 j v hj).1
  have hV1 : ∀ v ∈ (cs2.drop o2).take 5, v.oneCell' = true := fun v hv => by
    obtain ⟨j, hj⟩ := List.getElem?_of_mem (List.mem_of_mem_drop (List.mem_of_mem_take hv)); exact (p5 j v hj).1
  obtain ⟨w1, w2, r1, r2, t1', s2, u2, os2, tp2, ou2, c2, f2, kk, nT, nV⟩ := two_stores (P := Try.prog) (a := e.a) (N := e.cells) (p := o + (i + 1) * 5) (q := o + i * 5) (w := w.drew) o1 id (fun _ => ⟨rfl, rfl, rfl, rfl⟩) t2 hT1 v2 hV1 (by omega) (by omega) (.inr (by omega)) o4 oU
  have hcell1 : ∀ x : Addr, x.block ≠ e.a.block → w1.cell? x = w.cell? x := fun x hx => World.cell?_of_block (t1' _ hx)
  have m1 : Nat.min (n + 1 - i) (n + 1 - (i + 1)) = n - i := by show min _ _ = _; omega
  have m2 : Nat.min 1 (n + 1 - i) = 1 := by show min _ _ = _; omega
  have hc1 : (Builtin.copy_ #[22, 22] 3 #[.slice (some ⟨e.a.block, e.a.off + o + (i + 1) * 5, none⟩) (n + 1 - (i + 1)) (c' - (i + 1)), .slice (some ⟨e.a.block, e.a.off + o + i * 5, none⟩) (n + 1 - i) (c' - i)]).run Try.prog w.drew = .ok (goInt ((n - i : Nat) : Int)) w1 := by
    have := run_copy_x (P := Try.prog) (t := 22) (u := 22) (ty := 3) (w := w.drew) (w' := w1) (d := ⟨e.a.block, e.a.off + o + (i + 1) * 5, none⟩) (s := ⟨e.a.block, e.a.off + o + i * 5, none⟩) (dl := n + 1 - (i + 1)) (dc := c' - (i + 1)) (sl := n + 1 - i) (sc := c' - i) (news := T') u22 hi1
      (by rw [hsz, m1]; exact run_firstCells_some _ _ _ _ _ _ _ (by rw [t3]) fun j v hj => by have := t1 j v hj; rw [eA, ← Nat.add_assoc] at this; exact this)
      (by rw [show (⟨e.a.block, e.a.off + o + (i + 1) * 5, none⟩ : Addr) = e.a.add (o + (i + 1) * 5) by rw [eA, Nat.add_assoc]]; exact r1)
    rw [m1] at this
    exact this
  have hc2 : (Builtin.copy_ #[22, 22] 3 #[.slice (some ⟨e.a.block, e.a.off + o + i * 5, none⟩) (n + 1 - i) (c' - i), .slice (some (e2.a.add o2)) 1 vc]).run Try.prog w1 = .ok (goInt 1) w2 := by
    have := run_copy_x (P := Try.prog) (t := 22) (u := 22) (ty := 3) (w := w1) (w' := w2) (d := ⟨e.a.block, e.a.off + o + i * 5, none⟩) (s := e2.a.add o2) (dl := n + 1 - i) (dc := c' - i) (sl := 1) (sc := vc) (news := V') u22 hi1
      (by rw [hsz, m2]; exact run_firstCells_some _ _ _ _ _ _ _ (by rw [v3]) fun j v hj => by rw [hcell1 _ (by rw [add_block, add_block]; exact hbl)]; exact v1 j v hj)
      (by rw [show (⟨e.a.block, e.a.off + o + i * 5, none⟩ : Addr) = e.a.add (o + i * 5) by rw [eA, Nat.add_assoc]]; exact r2)
    rw [m2] at this
    exact this
  have hov : ∀ lb cb, (callFunc 53 #[.slice (some (e2.a.add o2)) 1 vc, .slice (some ⟨e.a.block, e.a.off + o + (i + 1) * 5, none⟩) lb cb]).run Try.prog w = .ok (.value (.bool false)) w := fun lb cb => by
    obtain ⟨ub, hub⟩ := o4 0 (by omega)
    obtain ⟨tB, kB, hsb, hkB⟩ := oU.shape (o := e.a.off + 0) (by rw [eA] at hub; exact hub)
    obtain ⟨ua, hua⟩ := p4 0 (by omega)
    rw [add_eq p1] at hua
    obtain ⟨tA, kA, hsa, _⟩ := pU.shape hua
    have hb2 : (e2.a.add o2).block = e2.a.block := add_block _ _
    rw [run_callFunc_extern Try.func53 (by kernel_rfl) (by kernel_rfl) (by kernel_rfl) (e := Extern.SlicesOverlaps.overlaps #[22, 22] #[4]) (by kernel_rfl),
      Lib.run_overlaps_apart w 22 4 26 u22 5 size26 (e2.a.add o2) ⟨e.a.block, e.a.off + o + (i + 1) * 5, none⟩ 1 vc lb cb (by rw [hb2]; exact hbl) tA tB kA kB (by rw [hb2]; exact hsa) hsb hkB (Unfrozen.noMark (by rw [hb2]; exact pU)) (Unfrozen.noMark (by show Unfrozen w (e2.a.add o2).block; rw [hb2]; exact pU))]
    rfl
  have hcall := ins_room mixed (w := w) (w1 := w1) (w2 := w2) e.a.block (e.a.off + o) n i c' (e2.a.add o2) vc hi hn hnc hm63 hov hc1 hc2
  rw [eA o]
  refine hcall.mono fun x u ⟨hx, hu⟩ => ?_
  subst hu
  have eF : ((cs.drop o).take (n * 5)).drop (i * 5) = (cs.drop (o + i * 5)).take ((n - i) * 5) := by
    rw [List.drop_take, List.drop_drop, ← Nat.sub_mul]
  have hAl : ((cs.drop o).take (i * 5)).length = i * 5 := by rw [List.length_take, List.length_drop]; omega
  have hin : i * 5 + 5 + (n - i) * 5 = (n + 1) * 5 := by omega
  have hle := Plan.le_put (b := H.next) ⟨e.a.add o, e.cells - o⟩ hH.fresh
  have hA : CellsRel m u (e.a.add o) ((cs.drop o).take (i * 5)) := fun j v hv => by
    have hj : j < i * 5 := by have := (List.getElem?_eq_some_iff.1 hv).1; omega
    rw [List.getElem?_take_of_lt hj, List.getElem?_drop] at hv
    obtain ⟨q1, v', q2, q3⟩ := o5 _ v hv
    refine ⟨q1, v', ?_, q3⟩
    rw [add_add, kk _ (by omega) (by omega)]
    exact q2
  have hV : CellsRel m u ((e.a.add o).add ((cs.drop o).take (i * 5)).length) ((cs2.drop o2).take 5) := CellsRel.of v2 hV1 fun j v' hj => by
    rw [hAl, add_add, add_add, ← Nat.add_assoc]; exact nV j v' hj
  have hT : CellsRel m u ((e.a.add o).add ((cs.drop o).take (i * 5) ++ (cs2.drop o2).take 5).length) ((cs.drop (o + i * 5)).take ((n - i) * 5)) := CellsRel.of t2 hT1 fun j v' hj => by
    rw [List.length_append, hAl, hVl, add_add, add_add, show o + (i * 5 + 5 + j) = o + (i + 1) * 5 + j by omega]; exact nT j v' hj
  have hobj : ORel (m.put H.next ⟨e.a.add o, e.cells - o⟩) u ⟨e.a.add o, e.cells - o⟩ (.row ((cs.drop o).take (i * 5) ++ (cs2.drop o2).take 5 ++ ((cs.drop o).take (n * 5)).drop (i * 5)) true) := by
    rw [eF]
    refine ⟨add_spot o1 o, by show Unfrozen u (e.a.add o).block; rw [add_block]; exact f2, by rw [List.length_append, List.length_append, hAl, hVl, hTl]; show _ ≤ e.cells - o; omega, fun j hj => ?_, ((hA.app hV).app hT).keep hle fun _ => rfl⟩
    show ∃ u', u.cell? ((e.a.add o).add j) = some u'
    rw [add_add]
    exact c2 _ (by have hj : j < e.cells - o := hj; omega)
  obtain ⟨g1, g2⟩ := hH.rename (w' := u) (e2 := ⟨e.a.add o, e.cells - o⟩) hb (by rw [hg]; rfl) _ (add_block _ _) hobj rfl s2 u2 os2 tp2 ou2
  refine ⟨_, _, hx, ?_, g1, g2⟩
  have := VRel.slice (m := m.put H.next ⟨e.a.add o, e.cells - o⟩) (b := H.next) (o := 0) (n := n + 1) (c := UNK 5) (c' := c') (Plan.put_same _ _ _) hnc hc' (fun _ => by show 0 + c' * (UNK 5 - 18446744073709551616) = e.cells - o; unfold UNK; omega) (fun q => by unfold UNK at q; omega)
  rw [add_zero] at this
  rw [← eA]
  exact this
theorem ins_grow_ok (mixed : Try.prog.follows .mixedOrders = true) (hH : HRel m H w) (hb : m b = some e) (hg : H.get b = .row cs true) (hb2 : m b2 = some e2) (hg2 : H.get b2 = .row cs2 true) (hi : i < n) (hn : n ≤ 1000) (hcs : o + n * 5 ≤ cs.length) (hcs2 : o2 + 5 ≤ cs2.length) :
    CallR Try.prog m H w 43 #[.slice (some (e.a.add o)) n n, .int .i64 i, .slice (some (e2.a.add o2)) 1 vc] (.slice (some ⟨H.next, 0, none⟩) (n + 1) (UNK 5)) ((H.set b .dead).push (.row ((cs.drop o).take (i * 5) ++ (cs2.drop o2).take 5 ++ ((cs.drop o).take (n * 5)).drop (i * 5)) true)) := by
  obtain ⟨ii, hi1, hz, hsz, hby⟩ := info26
  have hO := hH.obj b e hb
  rw [hg] at hO
  obtain ⟨o1, oU, o3, o4, o5⟩ := hO
  have hO2 := hH.obj b2 e2 hb2
  rw [hg2] at hO2
  obtain ⟨p1, pU, p3, p4, p5⟩ := hO2
  have eA : ∀ x, e.a.add x = ⟨e.a.block, e.a.off + x, none⟩ := fun x => add_eq o1 x
  have hlb : e.a.block < w.heap.size := oU.lt
  have hlb2 : e2.a.block < w.heap.size := pU.lt
  obtain ⟨A', a1, a2, a3⟩ := o5.read o (i * 5) (by omega)
  obtain ⟨T', t1, t2, t3⟩ := o5.read (o + i * 5) ((n - i) * 5) (by omega)
  obtain ⟨V', v1, v2, v3⟩ := p5.read o2 5 hcs2
  have hTl : ((cs.drop (o + i * 5)).take ((n - i) * 5)).length = (n - i) * 5 := by rw [List.length_take, List.length_drop]; omega
  have hVl : ((cs2.drop o2).take 5).length = 5 := by rw [List.length_take, List.length_drop]; omega
  have hAl : ((cs.drop o).take (i * 5)).length = i * 5 := by rw [List.length_take, List.length_drop]; omega
  have hA1 : ∀ v ∈ (cs.drop o).take (i * 5), v.oneCell' = true := fun v hv => by
    obtain ⟨j, hj⟩ := List.getElem?_of_mem (List.mem_of_mem_drop (List.mem_of_mem_take hv)); exact (o5 j v hj).1
  have hT1 : ∀ v ∈ (cs.drop (o + i * 5)).take ((n - i) * 5), v.oneCell' = true := fun v hv => by
    obtain ⟨j, hj⟩ := List.getElem?_of_mem (List.mem_of_mem_drop (List.mem_of_mem_take hv)); exact (o5 j v hj).1
  have hV1 : ∀ v ∈ (cs2.drop o2).take 5, v.oneCell' = true := fun v hv => by
    obtain ⟨j, hj⟩ := List.getElem?_of_mem (List.mem_of_mem_drop (List.mem_of_mem_take hv)); exact (p5 j v hj).1
  -- the new row
  have hold : (Builtin.firstCells ii.size i (.slice (some ⟨e.a.block, e.a.off + o, none⟩) i n)).run Try.prog w.drew = .ok A'.toArray w.drew := by
    rw [hsz]
    exact run_firstCells_some _ _ _ _ _ _ _ (by rw [a3]) fun j v hj => by have := a1 j v hj; rw [eA] at this; exact this
  have hfit : Builtin.nextslicecap (i + (n + 1 - i)) n * ii.bytes ≤ 281474976710656 := growslice_fits (by omega) (by rw [hby]; omega)
  have hrz := Lib.run_append_grow_zeros w 22 3 22 26 ii _ .i64 .i64 u22 u3 hi1 hz (some ⟨e.a.block, e.a.off + o, none⟩) i n A' hold (n + 1 - i) (by omega) (by rw [hsz]; decide) (by omega) (by omega) (by rw [hby]; omega) hfit
  have hin : i + (n + 1 - i) = n + 1 := by omega
  rw [hin] at hrz
  have hG1 : n + 1 ≤ grownCap w (n + 1) n 26 := grownCap_ge w _ _ _
  have hG2 := grownCap_le_maxLen w (n + 1) n 26 (by unfold maxLen; omega)
  generalize grownCap w (n + 1) n 26 = G at hrz hG1 hG2
  have hG3 : G ≤ 9223372036854775807 := by unfold maxLen at hG2; omega
  obtain ⟨c, hc⟩ : ∃ c, c = A'.toArray ++ Builtin.zeroCells (Value.agg #[.int .i64 0, .int .i64 0, .int .i64 0, .int .i64 0, .int .i64 0]).cells (n + 1 - i) ++ Builtin.zeroCells (Value.agg #[.int .i64 0, .int .i64 0, .int .i64 0, .int .i64 0, .int .i64 0]).cells (G - (n + 1)) := ⟨_, rfl⟩
  rw [← hc] at hrz
  have hcl : c.size = G * 5 := by
    rw [hc]
    simp only [Array.size_append, List.size_toArray, a3, Builtin.zeroCells, Value.cells]
    simp
    omega
  have hcA : ∀ j v, A'[j]? = some v → c[j]? = some v := fun j v hj => by
    have hj' := (List.getElem?_eq_some_iff.1 hj).1
    rw [hc, Array.getElem?_append_left (by simp; omega), Array.getElem?_append_left (by simpa using hj')]
    simpa using hj
  obtain ⟨g1, g2⟩ := hH.drew.alloc [] c 26 (by simp) (fun i v v' h => by simp at h) (fun v h => by cases h)
  obtain ⟨W1, hW1⟩ : ∃ W1, W1 = w.drew.alloc (.cells c 26) := ⟨_, rfl⟩
  have hnew : ∀ j, W1.cell? ((⟨w.heap.size, 0, none⟩ : Addr).add j) = c[j]? := fun j => by
    rw [hW1, add_eq rfl, Nat.zero_add]; exact World.cell?_alloc_new w.drew c 26 j
  have hold' : ∀ k, k < w.heap.size → W1.heap[k]? = w.heap[k]? := fun k hk => by rw [hW1]; exact (by first | exact Go.RowKit.heap_alloc_old w.drew _ k hk | exact heap_alloc_old w.drew _ hk)
  have hUn : Unfrozen W1 w.heap.size := ⟨c, 26, 0, 0, by rw [hW1]; exact heap_alloc_new w.drew _, rfl⟩
  rw [← hW1] at hrz g1 g2
  obtain ⟨w2, w3, r1, r2, t1', s2, u2, os2, tp2, ou2, c2, f2, kk, nV, nT⟩ := two_stores (P := Try.prog) (m := m) (a := ⟨w.heap.size, 0, none⟩) (N := G * 5) (p := i * 5) (q := (i + 1) * 5) (w := W1) rfl World.drew (fun _ => ⟨rfl, rfl, rfl, rfl⟩) v2 hV1 t2 hT1 (by omega) (by omega) (.inl (by omega))
    (fun j hj => ⟨c[j]'(by omega), by rw [hnew]; exact Array.getElem?_eq_getElem _⟩) hUn
  have hcellW : ∀ x : Addr, x.block < w.heap.size → W1.cell? x = w.cell? x := fun x hx => World.cell?_of_block (hold' _ hx)
  have hcell2 : ∀ x : Addr, x.block < w.heap.size → w2.drew.cell? x = w.cell? x := fun x hx => (World.cell?_of_block (t1' _ (by show ¬x.block = w.heap.size; omega))).trans (hcellW x hx)
  have m1 : Nat.min 1 (n + 1 - i) = 1 := by show min _ _ = _; omega
  have m2 : Nat.min (n - i) (n + 1 - (i + 1)) = n - i := by show min _ _ = _; omega
  have eN : ∀ x, (⟨w.heap.size, x, none⟩ : Addr) = (⟨w.heap.size, 0, none⟩ : Addr).add x := fun x => by rw [add_eq rfl, Nat.zero_add]
  have hc1 : (Builtin.copy_ #[22, 22] 3 #[.slice (some ⟨w.heap.size, i * 5, none⟩) (n + 1 - i) (G - i), .slice (some (e2.a.add o2)) 1 vc]).run Try.prog W1 = .ok (goInt 1) w2 := by
    have := run_copy_x (P := Try.prog) (t := 22) (u := 22) (ty := 3) (w := W1) (w' := w2) (d := ⟨w.heap.size, i * 5, none⟩) (s := e2.a.add o2) (dl := n + 1 - i) (dc := G - i) (sl := 1) (sc := vc) (news := V') u22 hi1
      (by rw [hsz, m1]; exact run_firstCells_some _ _ _ _ _ _ _ (by rw [v3]) fun j v hj => by rw [hcellW _ (by rw [add_block, add_block]; exact hlb2)]; exact v1 j v hj)
      (by rw [eN]; exact r1)
    rw [m1] at this
    exact this
  have hc2 : (Builtin.copy_ #[22, 22] 3 #[.slice (some ⟨w.heap.size, (i + 1) * 5, none⟩) (n + 1 - (i + 1)) (G - (i + 1)), .slice (some ⟨e.a.block, e.a.off + o + i * 5, none⟩) (n - i) (n - i)]).run Try.prog w2.drew = .ok (goInt ((n - i : Nat) : Int)) w3 := by
    have := run_copy_x (P := Try.prog) (t := 22) (u := 22) (ty := 3) (w := w2.drew) (w' := w3) (d := ⟨w.heap.size, (i + 1) * 5, none⟩) (s := ⟨e.a.block, e.a.off + o + i * 5, none⟩) (dl := n + 1 - (i + 1)) (dc := G - (i + 1)) (sl := n - i) (sc := n - i) (news := T') u22 hi1
      (by rw [hsz, m2]; exact run_firstCells_some _ _ _ _ _ _ _ (by rw [t3]) fun j v hj => by rw [hcell2 _ (by rw [add_block]; exact hlb)]; have := t1 j v hj; rw [eA, ← Nat.add_assoc] at this; exact this)
      (by rw [eN]; exact r2)
    rw [m2] at this
    exact this
  have hkk : (((n + 1 - i : Nat)) : Int) = (n : Int) + 1 - (i : Int) := by omega
  rw [hkk] at hrz
  have hcall := ins_grow mixed (w := w) (w1 := W1) (w2 := w2) (w3 := w3) e.a.block (e.a.off + o) n i w.heap.size G (e2.a.add o2) vc hi hn hG1 hG3 hrz hc1 hc2
  rw [eA o]
  refine hcall.mono fun x u ⟨hx, hu⟩ => ?_
  subst hu
  have eF : ((cs.drop o).take (n * 5)).drop (i * 5) = (cs.drop (o + i * 5)).take ((n - i) * 5) := by
    rw [List.drop_take, List.drop_drop, ← Nat.sub_mul]
  have hle := g2.le
  have hA : CellsRel m u ⟨w.heap.size, 0, none⟩ ((cs.drop o).take (i * 5)) := CellsRel.of a2 hA1 fun j v' hj => by
    have hj' := (List.getElem?_eq_some_iff.1 hj).1
    rw [kk _ (by omega) (by omega), hnew]; exact hcA j v' hj
  have hV : CellsRel m u ((⟨w.heap.size, 0, none⟩ : Addr).add ((cs.drop o).take (i * 5)).length) ((cs2.drop o2).take 5) := CellsRel.of v2 hV1 fun j v' hj => by
    rw [hAl, add_add]; exact nV j v' hj
  have hT : CellsRel m u ((⟨w.heap.size, 0, none⟩ : Addr).add ((cs.drop o).take (i * 5) ++ (cs2.drop o2).take 5).length) ((cs.drop (o + i * 5)).take ((n - i) * 5)) := CellsRel.of t2 hT1 fun j v' hj => by
    rw [List.length_append, hAl, hVl, add_add, show i * 5 + 5 + j = (i + 1) * 5 + j by omega]; exact nT j v' hj
  have hobj : ORel (m.put H.next ⟨⟨w.heap.size, 0, none⟩, c.size⟩) u ⟨⟨w.heap.size, 0, none⟩, c.size⟩ (.row ((cs.drop o).take (i * 5) ++ (cs2.drop o2).take 5 ++ ((cs.drop o).take (n * 5)).drop (i * 5)) true) := by
    rw [eF]
    refine ⟨rfl, f2, by rw [List.length_append, List.length_append, hAl, hVl, hTl]; show _ ≤ c.size; omega, fun j hj => c2 j (by have hj : j < c.size := hj; omega), ((hA.app hV).app hT).keep hle fun _ => rfl⟩
  obtain ⟨q1, q2⟩ := g1.write (w' := u) (Plan.put_same _ _ _) (by rw [Heap.get_push_same]; rfl) _ hobj rfl s2 u2 os2 tp2 ou2
  obtain ⟨z1, z2⟩ := q1.kill b
  have hbn : b ≠ H.next := by have := hH.lt hb; omega
  have hget : ∀ x, ((H.set b .dead).push (.row ((cs.drop o).take (i * 5) ++ (cs2.drop o2).take 5 ++ ((cs.drop o).take (n * 5)).drop (i * 5)) true)).get x = (((H.push (.row [] true)).set H.next (.row ((cs.drop o).take (i * 5) ++ (cs2.drop o2).take 5 ++ ((cs.drop o).take (n * 5)).drop (i * 5)) true)).set b .dead).get x := by
    intro x
    rw [Heap.get_push, Heap.get_set, Heap.get_set, Heap.get_set, Heap.get_push]
    by_cases h1 : x = H.next
    · subst h1; rw [if_pos (by simp), if_neg (Ne.symm hbn), if_pos rfl]
    · rw [if_neg (by simpa using h1)]
      by_cases h2 : x = b
      · rw [if_pos h2, if_pos h2]
      · rw [if_neg h2, if_neg h2, if_neg h1, if_neg h1]
  refine ⟨_, _, hx, ?_, z1.congr (by simp) hget, ((((Fr.drew m H w).trans g2).trans q2).trans z2).congr (by simp) hget⟩
  exact VRel.slice (m := m.put H.next ⟨⟨w.heap.size, 0, none⟩, c.size⟩) (b := H.next) (o := 0) (n := n + 1) (c := UNK 5) (c' := G) (e := ⟨⟨w.heap.size, 0, none⟩, c.size⟩) (Plan.put_same _ _ _) hG1 hG2 (fun _ => by show 0 + G * (UNK 5 - 18446744073709551616) = c.size; unfold UNK; omega) (fun q => by unfold UNK at q; omega)
end
/-- slices.Insert, as it is told, is the model's. -/
theorem natOK (mixed : Try.prog.follows .mixedOrders = true) : CallOK Try.prog natC := by
  intro f args H v H' h m w args' hH ha
  unfold natC at h
  split at h
  · rename_i hf
    subst hf
    split at h
    · rename_i a n k i a2 k2
      obtain ⟨s', i', x', rfl⟩ : ∃ s' i' x', args' = [s', i', x'] := by
        match args', ha.1 with
        | [p, q, r], _ => exact ⟨p, q, r, rfl⟩
      have hs := ha.head
      have hx := ha.tail.tail.head
      obtain rfl := VRel.int_iff.1 ha.tail.head
      obtain ⟨ii, hi1, hz, hsz, hby⟩ := info26
      split at h
      · rename_i hin
        subst hin
        obtain ⟨w', m', v', r1, r2, r3, r4⟩ := (xappend_run (P := Try.prog) (t := 22) (u := 22) (ty := 22) hH u22 u22 (fun k hk => by cases hk) hi1 hz (by rw [hsz]; rfl) hs hx (by rw [hsz, hby]; exact h)).out
        obtain ⟨A2, vc, rfl⟩ : ∃ A2 vc, x' = .slice (some A2) 1 vc := by cases hx with | slice => exact ⟨_, _, rfl⟩
        obtain ⟨base, c', rfl, hnc, hnil⟩ : ∃ base c', s' = .slice base n c' ∧ n ≤ c' ∧ (base = none → n = 0) := by
          cases hs with
          | nilslice => exact ⟨none, 0, rfl, Nat.le_refl _, fun _ => rfl⟩
          | slice hb a1 => exact ⟨_, _, rfl, a1, fun h => by cases h⟩
          | empty => exact ⟨_, _, rfl, Nat.zero_le _, fun h => by cases h⟩
        exact (ins_end base n c' A2 vc hnc hnil r1).mono fun e u ⟨he, hu⟩ => by subst hu; exact ⟨v', m', he, r2, r3, r4⟩
      · rename_i hin
        split at h
        · rename_i b o b2 o2
          cases hg : H.get b with
          | dead => rw [hg] at h; cases h
          | map es => rw [hg] at h; cases h
          | row cs own =>
            cases hg2 : H.get b2 with
            | dead => rw [hg, hg2] at h; cases own <;> cases h
            | map es => rw [hg, hg2] at h; cases own <;> cases h
            | row cs2 own2 =>
              rw [hg, hg2] at h
              cases own with
              | false => cases h
              | true =>
                cases own2 with
                | false => cases h
                | true =>
                  simp only at h
                  split at h
                  · rename_i hcond
                    obtain ⟨q1, rfl, q3, q4, q5, q6, q7⟩ := hcond
                    obtain ⟨j, rfl⟩ : ∃ j : Nat, i = (j : Int) := ⟨i.toNat, by omega⟩
                    rw [Int.toNat_natCast] at h
                    cases h
                    cases hs with
                    | slice hb a1 a2 a3 a4 =>
                      cases hx with
                      | slice hb2 c1 c2 c3 c4 =>
                        rename_i c' e vc e2
                        have hcap := a3 (by unfold UNK; omega)
                        rw [show UNK 5 - 18446744073709551616 = 5 by unfold UNK; omega] at hcap
                        by_cases hr : n + 1 ≤ c'
                        · exact ins_room_ok mixed hH hb hg hb2 hg2 q1 (by omega) q5 q6 q7 hr a2 hcap
                        · obtain rfl : n = c' := by omega
                          exact ins_grow_ok mixed hH hb hg hb2 hg2 (by omega) q5 q6 q7
                  · cases h
        · cases h
    · cases h
  · cases h
end Go.X
