/- slices.Insert of one cell stands for the model's. -/
import Derived.Test.YtomibdncbioijaaXzIns
import Derived.KernelRfl
set_option linter.unusedVariables false
set_option linter.unusedSimpArgs false
set_option maxRecDepth 20000
namespace Go.X
open Go Go.RowKit Go.Proofs Go.Lib
theorem HRel.congr {m : Plan} {H H' : Heap} {w : World} (h : HRel m H w) (hn : H'.next = H.next) (hg : ∀ b, H'.get b = H.get b) : HRel m H' w :=
  ⟨fun b hb => h.dom b (by omega), fun b e hb => by rw [hg]; exact h.obj b e hb, fun b1 b2 e1 e2 a b c d f => h.sep b1 b2 e1 e2 a b c (by rw [← hg]; exact d) (by rw [← hg]; exact f)⟩
theorem Fr.congr {m m' : Plan} {H H1 H2 : Heap} {w w' : World} (h : Fr m H w m' H1 w') (hn : H2.next = H1.next) (hg : ∀ b, H2.get b = H1.get b) : Fr m H w m' H2 w' :=
  ⟨h.le, by have := h.next; omega, h.os, h.tape, h.output, h.size, h.keep, fun B hB ⟨b, e, x, y, z⟩ => h.own B hB ⟨b, e, x, y, by rw [← hg]; exact z⟩, fun B hB ⟨b, e, x, y, z⟩ => h.live B hB ⟨b, e, x, y, by rw [← hg]; exact z⟩, fun b hb hd => by rw [hg]; exact h.dead b hb hd, h.old⟩
theorem run_copy_x {P : Program} {t u ty e : TypeId} {i : TypeInfo} {w w' : World} {d s : Addr} {dl dc sl sc : Nat} {news : List Value} (ht : P.underlying t = some (.slice e)) (hi : P.info? e = some i)
    (hf : (Builtin.firstCells i.size (Nat.min sl dl) (.slice (some s) sl sc)).run P w = .ok news.toArray w) (hst : (storeCells d news 0).run P w = .ok () w') :
    (Builtin.copy_ #[t, u] ty #[.slice (some d) dl dc, .slice (some s) sl sc]).run P w = .ok (.int .i64 (Nat.min sl dl)) w' := by
  have e0 : (#[t, u] : Array TypeId)[0]? = some t := rfl
  have e2 : (#[Value.slice (some d) dl dc, .slice (some s) sl sc] : Array Value)[0]? = some (.slice (some d) dl dc) := rfl
  have e3 : (#[Value.slice (some d) dl dc, .slice (some s) sl sc] : Array Value)[1]? = some (.slice (some s) sl sc) := rfl
  have hl : (Builtin.lenOf (.slice (some s) sl sc)).run P w = .ok sl w := rfl
  unfold Builtin.copy_
  simp only [e0, e2, e3, Sem.run_bind, run_underlying ht, Result.andThen_ok, hl, sizeOf, typeInfo, run_program, hi, Sem.run_pure, hf]
  rw [hst]; rfl
theorem info26 : ∃ i, Try.prog.info? 26 = some i ∧ i.zero = some (.agg #[.int .i64 0, .int .i64 0, .int .i64 0, .int .i64 0, .int .i64 0]) ∧ i.size = 5 ∧ i.bytes = 40 :=
  info_parts (by kernel_rfl)
theorem u22 : Try.prog.underlying 22 = some (.slice 26) := by kernel_rfl
theorem u3 : Try.prog.underlying 3 = some (.int .i64) := by kernel_rfl
theorem size26 (w : World) : (Go.sizeOf 26).run Try.prog w = .ok 5 w := by
  obtain ⟨i, hi, _, hs, _⟩ := info26
  simp [sizeOf, typeInfo, hi, hs]
theorem Unfrozen.shape {w : World} {B : Nat} (h : Unfrozen w B) {o : Nat} {u : Value} (hu : w.cell? ⟨B, o, none⟩ = some u) : ∃ t k, w.shape? B = some (t, k) ∧ k ≠ 0 := by
  obtain ⟨c, el, lo, hi, hh, _⟩ := h
  simp only [World.cell?, hh] at hu
  refine ⟨el, c.size, by simp [World.shape?, hh], fun e => ?_⟩
  have := (Array.getElem?_eq_some_iff.1 (by simpa using hu)).1
  omega
theorem CellsRel.app {m : Plan} {w : World} {a : Addr} {X Y : List Value} (h : CellsRel m w a X) (k : CellsRel m w (a.add X.length) Y) : CellsRel m w a (X ++ Y) := by
  intro i v hv
  rw [List.getElem?_append] at hv
  split at hv
  · exact h i v hv
  · rename_i hi
    obtain ⟨h1, v', h2, h3⟩ := k _ v hv
    refine ⟨h1, v', ?_, h3⟩
    rw [add_add, show X.length + (i - X.length) = i by omega] at h2
    exact h2
theorem CellsRel.of {m : Plan} {w : World} {a : Addr} {X X' : List Value} (h : LRel m X X') (h1 : ∀ v ∈ X, v.oneCell' = true) (hc : ∀ j v', X'[j]? = some v' → w.cell? (a.add j) = some v') : CellsRel m w a X := by
  intro i v hv
  obtain ⟨v', hv', hr⟩ := h.get hv
  exact ⟨h1 v (List.mem_of_getElem? hv), v', hc i v' hv', hr⟩
/-- Two stores, side by side. -/
theorem two_stores {P : Program} {m : Plan} {a : Addr} (hs : a.spot = none) {U U' V V' : List Value} {p q N : Nat} {w : World} (d : World → World) (hd : ∀ x, (d x).heap = x.heap ∧ (d x).os = x.os ∧ (d x).tape = x.tape ∧ (d x).output = x.output)
    (hU : LRel m U U') (h1U : ∀ v ∈ U, v.oneCell' = true) (hV : LRel m V V') (h1V : ∀ v ∈ V, v.oneCell' = true) (hp : p + U.length ≤ N) (hq : q + V.length ≤ N) (hdis : p + U.length ≤ q ∨ q + V.length ≤ p)
    (hc : ∀ j, j < N → ∃ u, w.cell? (a.add j) = some u) (hu : Unfrozen w a.block) :
    ∃ w1 w2, (storeCells (a.add p) U' 0).run P w = .ok () w1 ∧ (storeCells (a.add q) V' 0).run P (d w1) = .ok () w2 ∧ (∀ k, k ≠ a.block → w1.heap[k]? = w.heap[k]?) ∧ w2.heap.size = w.heap.size ∧ (∀ k, k ≠ a.block → w2.heap[k]? = w.heap[k]?) ∧ w2.os = w.os ∧ w2.tape = w.tape ∧ w2.output = w.output ∧
      (∀ j, j < N → ∃ u, w2.cell? (a.add j) = some u) ∧ Unfrozen w2 a.block ∧ (∀ j, (j < p ∨ p + U.length ≤ j) → (j < q ∨ q + V.length ≤ j) → w2.cell? (a.add j) = w.cell? (a.add j)) ∧
      (∀ j v', U'[j]? = some v' → w2.cell? (a.add (p + j)) = some v') ∧ (∀ j v', V'[j]? = some v' → w2.cell? (a.add (q + j)) = some v') := by
  obtain ⟨w1, r1, s1, t1, a1, b1, c1, d1, f1, _, k1, n1⟩ := run_storeCells_x (P := P) hs U U' [] p 0 w N hU h1U (by omega) hc (fun i v h => by simp at h) hu
  obtain ⟨q1, q2, q3, q4⟩ := hd w1
  have hcell : ∀ x : Addr, (d w1).cell? x = w1.cell? x := fun x => World.cell?_of_block (by rw [q1])
  obtain ⟨w2, r2, s2, t2, a2, b2, c2, d2, f2, _, k2, n2⟩ := run_storeCells_x (P := P) hs V V' [] q 0 (d w1) N hV h1V (by omega) (fun j hj => by rw [hcell]; exact d1 j hj) (fun i v h => by simp at h) (f1.keep (by rw [q1]))
  simp only [Nat.add_zero] at k1 n1 k2 n2
  refine ⟨w1, w2, r1, r2, t1, by rw [s2, q1, s1], fun k hk => by rw [t2 k hk, q1, t1 k hk], by rw [a2, q2, a1], by rw [b2, q3, b1], by rw [c2, q4, c1], d2, f2, fun j h1 h2 => by rw [k2 j h2, hcell, k1 j h1], fun j v' hj => ?_, fun j v' hj => n2 j v' hj⟩
  have hlt := (List.getElem?_eq_some_iff.1 hj).1
  have hl := hU.1
  rw [k2 _ (by omega), hcell]
  exact n1 j v' hj
end Go.X
