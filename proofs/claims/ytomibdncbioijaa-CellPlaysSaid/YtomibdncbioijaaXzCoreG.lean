/- Operations that write: store, append, copy, clear. -/
import Derived.Test.YtomibdncbioijaaXzCoreF
import Derived.Laws.Append
set_option linter.unusedVariables false
set_option linter.unusedSimpArgs false
namespace Go.X
open Go Go.RowKit

section
variable {P : Program} {m : Plan} {ρ ρ' : Operand → Value}

/-- The cells that a source hands over: a slice, a string. -/
def xsrc (H : Heap) (sz : Nat) (x : Value) : Option (Nat × List Value) :=
  match x with
  | .slice none n _ => if n = 0 then some (0, []) else none
  | .slice (some ad) n _ => match ad.spot with
    | some _ => if n = 0 then some (0, []) else none
    | none => match H.get ad.block with
      | .row cs _ => if ad.off + n * sz ≤ cs.length then some (n, (cs.drop ad.off).take (n * sz)) else none
      | _ => none
  | _ => none

structure SrcRun (P : Program) (w : World) (sz k : Nat) (x' : Value) (news' : List Value) : Prop where
  len : ∀ w2, (Builtin.lenOf x').run P w2 = .ok k w2
  cells : ∀ w2 : World, (∀ a, w2.cell? a = w.cell? a) → (Builtin.firstCells sz k x').run P w2 = .ok news'.toArray w2
  take : ∀ j, j ≤ k → ∀ w2 : World, (∀ a, w2.cell? a = w.cell? a) → (Builtin.firstCells sz j x').run P w2 = .ok (news'.take (j * sz)).toArray w2

theorem xsrc_run {H : Heap} {w : World} (hH : HRel m H w) {sz k : Nat} {x x' : Value} {news : List Value} (hx : VRel m x x') (h : xsrc H sz x = some (k, news)) :
    ∃ news', SrcRun P w sz k x' news' ∧ LRel m news news' ∧ (∀ v ∈ news, v.oneCell' = true) ∧ news.length = k * sz := by
  unfold xsrc at h
  cases hx with
  | bool | int | string | nilptr | ptr | nilmap | map | func | nilFunc | nilIface | iface | agg | tuple => cases h
  | nilslice =>
    simp only [if_true] at h
    cases h
    exact ⟨[], ⟨fun w2 => rfl, fun w2 _ => rfl, fun j hj w2 _ => by simp [Builtin.firstCells]⟩, LRel.nil m, by simp, by simp⟩
  | empty hc =>
    simp only [if_true] at h
    cases h
    exact ⟨[], ⟨fun w2 => rfl, fun w2 _ => by simp [Builtin.firstCells, loadCells, loadCellsFrom], fun j hj w2 _ => by
      obtain rfl : j = 0 := by omega
      simp [Builtin.firstCells, loadCells, loadCellsFrom]⟩, LRel.nil m, by simp, by simp⟩
  | slice hb a1 a2 a3 a4 =>
    rename_i b o n c c' e
    simp only at h
    cases hg : H.get b with
    | dead => simp [hg] at h
    | map es => simp [hg] at h
    | row cs own =>
      simp only [hg] at h
      split at h
      · rename_i hle
        cases h
        have hc := hH.cells hb hg
        obtain ⟨vs', h1, h2, h3⟩ := hc.read o (k * sz) hle
        refine ⟨vs', ⟨fun w2 => rfl, fun w2 hw => run_firstCells_some (P := P) w2 sz k _ _ _ vs' h3 fun j v hv => by rw [hw]; exact h1 j v hv, fun j hj w2 hw => ?_⟩, h2, fun v hv => hc.one v (List.mem_of_mem_drop (List.mem_of_mem_take hv)), ?_⟩
        · have hjk : j * sz ≤ k * sz := Nat.mul_le_mul_right _ hj
          refine run_firstCells_some (P := P) w2 sz j _ _ _ (vs'.take (j * sz)) (by rw [List.length_take]; omega) fun i v hv => ?_
          rw [hw]
          refine h1 i v ?_
          rw [List.getElem?_take] at hv
          split at hv
          · exact hv
          · cases hv
        · rw [List.length_take, List.length_drop]; omega
      · cases h

/-! ### append, as the model runs it -/
theorem run_append_in (t u ty e : TypeId) (i : TypeInfo) (ud : TypeDesc) (ht : P.underlying t = some (.slice e)) (hu : P.underlying u = some ud) (hnu : ∀ k, ud ≠ .int k) (hi : P.info? e = some i)
    {w : World} {base : Option Addr} {n c k : Nat} {x' : Value} {news' : List Value} (hs : SrcRun P w i.size k x' news') (hle : n + k ≤ c) :
    (Builtin.append_ #[t, u] ty #[.slice base n c, x']).run P w =
      (match base with | some a => (storeCells (a.add (n * i.size)) news').run P w | none => .ok () w).andThen fun _ w' => .ok (.slice base (n + k) c) w' := by
  have hz : (match ud with | .int _ => true | _ => false) = false := by cases ud <;> first | rfl | exact absurd rfl (hnu _)
  have h1 := hs.len w
  have h2 := hs.cells w fun _ => rfl
  have e0 : (#[t, u] : Array TypeId)[0]? = some t := rfl
  have e1 : (#[t, u] : Array TypeId)[1]? = some u := rfl
  have e2 : (#[Value.slice base n c, x'] : Array Value)[0]? = some (.slice base n c) := rfl
  have e3 : (#[Value.slice base n c, x'] : Array Value)[1]? = some x' := rfl
  unfold Builtin.append_
  simp only [e0, e1, e2, e3, Sem.run_bind, run_underlying ht, run_underlying hu, Result.andThen_ok, sizeOf, typeInfo, run_program, hi, Sem.run_pure, hz, Bool.false_eq_true, if_false, h1, Bool.not_false, if_true]
  rw [if_pos hle]
  simp only [Sem.run_bind, h2, Result.andThen_ok]
  cases base with
  | none => simp
  | some a => simp

theorem run_append_grow' (t u ty e : TypeId) (i : TypeInfo) (z : Value) (ud : TypeDesc) (ht : P.underlying t = some (.slice e)) (hu : P.underlying u = some ud) (hnu : ∀ k, ud ≠ .int k) (hi : P.info? e = some i) (hz : i.zero = some z)
    {w : World} {base : Option Addr} {n c k : Nat} {x' : Value} {news' olds' : List Value} (hs : SrcRun P w i.size k x' news') (hlt : c < n + k)
    (ho : ∀ w2 : World, (∀ a, w2.cell? a = w.cell? a) → (Builtin.firstCells i.size n (.slice base n c)).run P w2 = .ok olds'.toArray w2)
    (h63 : n + k ≤ 140737488355328) (h48 : (n + k) * i.bytes ≤ 140737488355328) :
    (Builtin.append_ #[t, u] ty #[.slice base n c, x']).run P w =
      .ok (.slice (some ⟨w.heap.size, 0, none⟩) (n + k) (grownCap w (n + k) c e))
        (w.drew.alloc (.cells (olds'.toArray ++ news'.toArray ++ Builtin.zeroCells z.cells (grownCap w (n + k) c e - (n + k))) e)) := by
  have hz' : (match ud with | .int _ => true | _ => false) = false := by cases ud <;> first | rfl | exact absurd rfl (hnu _)
  have h1 := hs.len w
  have h2 := hs.cells w.drew fun _ => rfl
  have h3 := ho w.drew fun _ => rfl
  have e0 : (#[t, u] : Array TypeId)[0]? = some t := rfl
  have e1 : (#[t, u] : Array TypeId)[1]? = some u := rfl
  have e2 : (#[Value.slice base n c, x'] : Array Value)[0]? = some (.slice base n c) := rfl
  have e3 : (#[Value.slice base n c, x'] : Array Value)[1]? = some x' := rfl
  have n1 : ¬ (((n + k : Nat) : Int) > IntKind.i64.max) := by have : IntKind.i64.max = 9223372036854775807 := rfl; omega
  have n2 : ¬ (Builtin.nextslicecap (n + k) c * i.bytes > 2 ^ 48) := by have := growslice_fits (bytes := i.bytes) hlt h48; omega
  unfold Builtin.append_
  simp only [e0, e1, e2, e3, Sem.run_bind, run_underlying ht, run_underlying hu, Result.andThen_ok, sizeOf, typeInfo, run_program, hi, Sem.run_pure, hz', Bool.false_eq_true, if_false, h1, Bool.not_false, if_true]
  rw [if_neg (by omega)]
  simp only [Sem.run_bind, Sem.run_ite, n1, false_and, if_false, run_program, Result.andThen_ok, hi, Sem.run_pure, n2, run_choose, Question.forced, Bool.false_eq_true, run_askRoom, World.drew_eq, h3, h2, zeroValue, typeInfo, hz, newRow, run_newObj, World.alloc_eq]
  rfl

/-! ### what was there goes, or is named anew -/
theorem HRel.kill {H : Heap} {w : World} (h : HRel m H w) (b : Nat) : HRel m (H.set b .dead) w ∧ Fr m H w m (H.set b .dead) w := by
  constructor
  · refine ⟨h.dom, fun i e hi => ?_, fun b1 b2 e1 e2 hne hb1 hb2 ho hl => ?_⟩
    · by_cases hib : i = b
      · subst hib; rw [Heap.get_set_same]; trivial
      · rw [Heap.get_set_ne _ _ _ _ hib]; exact h.obj i e hi
    · have h1 : b1 ≠ b := by rintro rfl; rw [Heap.get_set_same] at ho; cases ho
      have h2 : b2 ≠ b := by rintro rfl; rw [Heap.get_set_same] at hl; cases hl
      rw [Heap.get_set_ne _ _ _ _ h1] at ho
      rw [Heap.get_set_ne _ _ _ _ h2] at hl
      exact h.sep b1 b2 e1 e2 hne hb1 hb2 ho hl
  · refine ⟨Plan.le.refl m, Nat.le_refl _, rfl, rfl, rfl, Nat.le_refl _, fun _ _ _ => rfl, fun B hB ⟨i, e, hi, he, ho⟩ => ?_, fun B hB ⟨i, e, hi, he, ho⟩ => ?_, fun i hi hd => by
      by_cases hib : i = b
      · subst hib; rw [Heap.get_set_same]
      · rw [Heap.get_set_ne _ _ _ _ hib]; exact hd, fun _ _ => rfl⟩
    all_goals
      have h1 : i ≠ b := by rintro rfl; rw [Heap.get_set_same] at ho; cases ho
      rw [Heap.get_set_ne _ _ _ _ h1] at ho
      exact ⟨i, e, hi, he, ho⟩

/-- The block has another name now; the world differs in it alone. -/
theorem HRel.rename {H : Heap} {w w' : World} (h : HRel m H w) {b : Nat} {e e2 : Ent} (hb : m b = some e) (ho : (H.get b).ownB = true) (o : AObj) (he : e2.a.block = e.a.block)
    (hobj : ORel (m.put H.next e2) w' e2 o) (hown : o.ownB = true) (hsz : w'.heap.size = w.heap.size) (hoth : ∀ k, k ≠ e.a.block → w'.heap[k]? = w.heap[k]?)
    (hos : w'.os = w.os) (htape : w'.tape = w.tape) (hout : w'.output = w.output) :
    HRel (m.put H.next e2) ((H.set b .dead).push o) w' ∧ Fr m H w (m.put H.next e2) ((H.set b .dead).push o) w' := by
  have hle : Plan.le m (m.put H.next e2) := Plan.le_put e2 h.fresh
  have hbn : b ≠ H.next := by have := h.lt hb; omega
  have get' : ∀ i, i ≠ H.next → i ≠ b → ((H.set b .dead).push o).get i = H.get i := fun i h1 h2 => by
    rw [Heap.get_push_ne _ _ _ (by simpa using h1), Heap.get_set_ne _ _ _ _ h2]
  have getb : ((H.set b .dead).push o).get b = .dead := by rw [Heap.get_push_ne _ _ _ (by simpa using hbn), Heap.get_set_same]
  have getn : ((H.set b .dead).push o).get H.next = o := Heap.get_push_same (H.set b .dead) o
  have sepb : ∀ i ei, m i = some ei → i ≠ b → (H.get i).liveB = true → ei.a.block ≠ e.a.block := fun i ei hi hib hl => (h.sep b i e ei (Ne.symm hib) hb hi ho hl).symm
  constructor
  · refine ⟨fun i hi => ?_, fun i ei hi => ?_, fun b1 b2 e1 e2' hne hb1 hb2 ho1 hl2 => ?_⟩
    · simp at hi
      rw [Plan.put_ne _ _ _ _ (by omega)]
      exact h.dom i (by omega)
    · by_cases hin : i = H.next
      · subst hin; rw [Plan.put_same] at hi; cases hi; rw [getn]; exact hobj
      · rw [Plan.put_ne _ _ _ _ hin] at hi
        by_cases hib : i = b
        · subst hib; rw [getb]; trivial
        · rw [get' i hin hib]
          exact (h.obj i ei hi).keep hle (by omega) fun hl => hoth _ (sepb i ei hi hib hl)
    · have k1 : b1 ≠ b := by rintro rfl; rw [getb] at ho1; cases ho1
      have k2 : b2 ≠ b := by rintro rfl; rw [getb] at hl2; cases hl2
      by_cases h1 : b1 = H.next
      · subst h1
        rw [Plan.put_same] at hb1; cases hb1
        have h2 : b2 ≠ H.next := fun e => hne e.symm
        rw [Plan.put_ne _ _ _ _ h2] at hb2
        rw [get' b2 h2 k2] at hl2
        rw [he]
        exact (sepb b2 e2' hb2 k2 hl2).symm
      · rw [Plan.put_ne _ _ _ _ h1] at hb1
        rw [get' b1 h1 k1] at ho1
        by_cases h2 : b2 = H.next
        · subst h2
          rw [Plan.put_same] at hb2; cases hb2
          rw [he]
          exact sepb b1 e1 hb1 k1 (AObj.live_of_own ho1)
        · rw [Plan.put_ne _ _ _ _ h2] at hb2
          rw [get' b2 h2 k2] at hl2
          exact h.sep b1 b2 e1 e2' hne hb1 hb2 ho1 hl2
  · refine ⟨hle, by simp, hos, htape, hout, by omega, fun B hB hno => hoth B fun hBe => hno ⟨b, e, hb, hBe.symm, ho⟩, fun B hB hO => ?_, fun B hB hO => ?_, fun i hi hd => by
      by_cases hib : i = b
      · subst hib; exact getb
      · rw [get' i (by omega) hib]; exact hd, fun i hi => Plan.put_ne _ _ _ _ (by omega)⟩
    all_goals
      obtain ⟨i, ei, hi, hei, hio⟩ := hO
      by_cases hin : i = H.next
      · subst hin; rw [Plan.put_same] at hi; cases hi; exact ⟨b, e, hb, by rw [← hei, he], by first | exact ho | exact AObj.live_of_own ho⟩
      · rw [Plan.put_ne _ _ _ _ hin] at hi
        have hib : i ≠ b := by rintro rfl; rw [getb] at hio; cases hio
        rw [get' i hin hib] at hio
        exact ⟨i, ei, hi, hei, hio⟩

/-! ### append -/
def xappend (H : Heap) (sz by_ : Nat) (s x : Value) : Option (Value × Heap) :=
  match xsrc H sz x with
  | none => none
  | some (k, news) =>
    if k = 0 then (match s with
      | .slice _ _ _ => some (s, H)
      | _ => none)
    else match s with
      | .slice none n c => if n = 0 ∧ c = 0 ∧ k * by_ ≤ 140737488355328 ∧ k ≤ 140737488355328 then some (.slice (some ⟨H.next, 0, none⟩) k (UNK sz), H.push (.row news true)) else none
      | .slice (some ad) n c => match ad.spot with
        | some _ => none
        | none => match H.get ad.block with
          | .row cs own =>
            if ad.off + n * sz ≤ cs.length ∧ (n + k) * by_ ≤ 140737488355328 ∧ n + k ≤ 140737488355328 ∧ 0 < sz then
              (if c < 18446744073709551616 then
                (if c < n + k then some (.slice (some ⟨H.next, 0, none⟩) (n + k) (UNK sz), H.push (.row ((cs.drop ad.off).take (n * sz) ++ news) true)) else none)
              else if c = UNK sz ∧ own = true then
                (if ad.off + (n + k) * sz ≤ cs.length then some (.slice (some ad) (n + k) c, H.set ad.block (.row (setMany cs (ad.off + n * sz) news) true))
                else some (.slice (some ⟨H.next, 0, none⟩) (n + k) (UNK sz), (H.set ad.block .dead).push (.row ((cs.drop ad.off).take (n * sz) ++ news) true)))
              else none)
            else none
          | _ => none
      | _ => none

/-- What an effect comes to. -/
structure EffR (P : Program) (m : Plan) (H : Heap) (w : World) (s : Sem Value) (v : Value) (H' : Heap) : Prop where
  out : ∃ w' m' v', s.run P w = .ok v' w' ∧ VRel m' v v' ∧ HRel m' H' w' ∧ Fr m H w m' H' w'

theorem size_zeroCells' (z : Array Value) (n : Nat) : (Builtin.zeroCells z n).size = n * z.size := by simp [Builtin.zeroCells]

/-- The new row that an append makes. -/
theorem eff_grown {H H1 : Heap} {w : World} (h : HRel m H w) (h1 : HRel m H1 w) (f1 : Fr m H w m H1 w) (hn : H1.next = H.next)
    {t u ty e : TypeId} {i : TypeInfo} {z : Value} {ud : TypeDesc} (ht : P.underlying t = some (.slice e)) (hu : P.underlying u = some ud) (hnu : ∀ k, ud ≠ .int k) (hi : P.info? e = some i) (hz : i.zero = some z)
    (hzs : z.cells.size = i.size) {base : Option Addr} {n c k : Nat} {x' : Value} {news' olds' news olds : List Value} (hs : SrcRun P w i.size k x' news') (hlt : c < n + k)
    (ho : ∀ w2 : World, (∀ a, w2.cell? a = w.cell? a) → (Builtin.firstCells i.size n (.slice base n c)).run P w2 = .ok olds'.toArray w2)
    (h63 : n + k ≤ 140737488355328) (h48 : (n + k) * i.bytes ≤ 140737488355328) (hrn : LRel m news news') (hro : LRel m olds olds') (h1n : ∀ v ∈ news, v.oneCell' = true) (h1o : ∀ v ∈ olds, v.oneCell' = true)
    (hln : news.length = k * i.size) (hlo : olds.length = n * i.size) :
    EffR P m H w (Builtin.append_ #[t, u] ty #[.slice base n c, x']) (.slice (some ⟨H.next, 0, none⟩) (n + k) (UNK i.size)) (H1.push (.row (olds ++ news) true)) := by
  have hrun := run_append_grow' t u ty e i z ud ht hu hnu hi hz hs hlt ho h63 h48
  have hge := grownCap_ge w (n + k) c e
  have hcm : grownCap w (n + k) c e ≤ maxLen := grownCap_le_maxLen w (n + k) c e (by unfold maxLen; omega)
  have hrel := hro.append hrn
  have hsz : (olds'.toArray ++ news'.toArray ++ Builtin.zeroCells z.cells (grownCap w (n + k) c e - (n + k))).size = grownCap w (n + k) c e * i.size := by
    have a1 := hrn.1; have a2 := hro.1
    simp only [Array.size_append, List.size_toArray, size_zeroCells', hzs, ← a1, ← a2, hln, hlo, ← Nat.add_mul]
    congr 1; omega
  obtain ⟨g1, g2⟩ := h1.drew.alloc (olds ++ news) (olds'.toArray ++ news'.toArray ++ Builtin.zeroCells z.cells (grownCap w (n + k) c e - (n + k))) e
    (by rw [hsz, List.length_append, hln, hlo, ← Nat.add_mul]; exact Nat.mul_le_mul_right _ hge)
    (fun j v v' a b => by
      refine hrel.2 j v v' a ?_
      have hj : j < (olds' ++ news').length := by rw [← hrel.1]; exact (List.getElem?_eq_some_iff.1 a).1
      have : (olds'.toArray ++ news'.toArray ++ Builtin.zeroCells z.cells (grownCap w (n + k) c e - (n + k)))[j]? = ((olds' ++ news') ++ (Builtin.zeroCells z.cells (grownCap w (n + k) c e - (n + k))).toList)[j]? := by
        rw [← Array.getElem?_toList]; simp
      rw [this, List.getElem?_append_left hj] at b
      exact b)
    (fun v hv => by rcases List.mem_append.1 hv with h | h; exact h1o v h; exact h1n v h)
  rw [hn] at g1 g2
  refine ⟨_, _, _, hrun, ?_, g1, f1.trans ((Fr.drew m H1 w).trans g2)⟩
  have := VRel.slice (m := m.put H.next ⟨⟨w.drew.heap.size, 0, none⟩, _⟩) (o := 0) (n := n + k) (c := UNK i.size) (c' := grownCap w (n + k) c e) (Plan.put_same _ _ _) hge hcm
    (by intro _; simp only [UNK, Nat.add_sub_cancel_left, Nat.zero_add]; exact hsz.symm) (by intro h; simp [UNK] at h; omega)
  rwa [add_zero] at this

theorem xappend_run {H H' : Heap} {w : World} (h : HRel m H w) {t u ty e : TypeId} {i : TypeInfo} {z : Value} {ud : TypeDesc} (ht : P.underlying t = some (.slice e)) (hu : P.underlying u = some ud) (hnu : ∀ k, ud ≠ .int k) (hi : P.info? e = some i) (hz : i.zero = some z)
    (hzs : z.cells.size = i.size) {s s' x x' v : Value} (hs : VRel m s s') (hx : VRel m x x') (hv : xappend H i.size i.bytes s x = some (v, H')) :
    EffR P m H w (Builtin.append_ #[t, u] ty #[s', x']) v H' := by
  unfold xappend at hv
  cases hsrc : xsrc H i.size x with
  | none => simp [hsrc] at hv
  | some kn =>
    obtain ⟨k, news⟩ := kn
    simp only [hsrc] at hv
    obtain ⟨news', hS, hrn, h1n, hln⟩ := xsrc_run (P := P) h hx hsrc
    split at hv
    · rename_i hk
      subst hk
      have hn0 : news' = [] := List.eq_nil_of_length_eq_zero (by rw [← hrn.1, hln, Nat.zero_mul])
      subst hn0
      have key : ∀ (base : Option Addr) (n c : Nat), n ≤ c → (Builtin.append_ #[t, u] ty #[.slice base n c, x']).run P w = .ok (.slice base n c) w := by
        intro base n c hle
        rw [run_append_in t u ty e i ud ht hu hnu hi hS (by omega)]
        cases base <;> simp [storeCells]
      cases hs with
      | bool | int | string | nilptr | ptr | nilmap | map | func | nilFunc | nilIface | iface | agg | tuple => cases hv
      | nilslice => cases hv; exact ⟨_, _, _, key none 0 0 (Nat.le_refl _), .nilslice, h, Fr.refl _ _ _⟩
      | empty hc => cases hv; exact ⟨_, _, _, key _ 0 _ (Nat.zero_le _), .empty hc, h, Fr.refl _ _ _⟩
      | slice hb a1 a2 a3 a4 => cases hv; exact ⟨_, _, _, key _ _ _ a1, .slice hb a1 a2 a3 a4, h, Fr.refl _ _ _⟩
    · rename_i hk
      cases hs with
      | bool | int | string | nilptr | ptr | nilmap | map | func | nilFunc | nilIface | iface | agg | tuple => cases hv
      | nilslice =>
        simp only at hv
        split at hv
        · rename_i hb
          cases hv
          have := eff_grown (ty := ty) h h (Fr.refl _ _ _) rfl ht hu hnu hi hz hzs (base := none) (n := 0) (c := 0) (olds' := []) (olds := []) hS (by omega) (fun w2 _ => rfl) (by omega) (by simpa using hb.2.2.1) hrn (LRel.nil m) h1n (by simp) hln (by simp)
          simpa using this
        · cases hv
      | empty hc => simp only at hv; cases hv
      | slice hb a1 a2 a3 a4 =>
        rename_i b o n c c' en
        simp only at hv
        cases hg : H.get b with
        | dead => simp [hg] at hv
        | map es => simp [hg] at hv
        | row cs own =>
          simp only [hg] at hv
          split at hv
          · rename_i hle
            obtain ⟨hle, h48, h47, hszp⟩ := hle
            have hc := h.cells hb hg
            obtain ⟨olds', ho1, ho2, ho3⟩ := hc.read o (n * i.size) hle
            have hfo : ∀ (c'' : Nat) (w2 : World), (∀ a, w2.cell? a = w.cell? a) → (Builtin.firstCells i.size n (.slice (some (en.a.add o)) n c'')).run P w2 = .ok olds'.toArray w2 :=
              fun c'' w2 hw => run_firstCells_some (P := P) w2 i.size n _ _ _ olds' ho3 fun j v hv => by rw [hw]; exact ho1 j v hv
            have h1o : ∀ v ∈ (cs.drop o).take (n * i.size), v.oneCell' = true := fun v hv => hc.one v (List.mem_of_mem_drop (List.mem_of_mem_take hv))
            have hlo : ((cs.drop o).take (n * i.size)).length = n * i.size := by rw [List.length_take, List.length_drop]; omega
            split at hv
            · rename_i hcl
              split at hv
              · rename_i hclt
                cases hv
                have hcc := a4 hcl
                subst hcc
                exact eff_grown (ty := ty) h h (Fr.refl _ _ _) rfl ht hu hnu hi hz hzs hS hclt (hfo _) h47 h48 hrn ho2 h1n h1o hln hlo
              · cases hv
            · rename_i hcl
              split at hv
              · rename_i hcu
                obtain ⟨rfl, rfl⟩ := hcu
                have hcap := a3 (by simp [UNK])
                simp only [UNK, Nat.add_sub_cancel_left] at hcap
                have hO := h.obj b en hb
                rw [hg] at hO
                obtain ⟨o1, o2, o3, o4, o5⟩ := hO
                have ownb : (H.get b).ownB = true := by rw [hg]; rfl
                split at hv
                · rename_i hfit
                  cases hv
                  have hroom : n + k ≤ c' := by
                    have : (n + k) * i.size ≤ c' * i.size := by omega
                    exact Nat.le_of_mul_le_mul_right this hszp
                  obtain ⟨w', hrun, hsz, hoth, hos, htape, hout, hcells, huf, hrel, _, _⟩ := run_storeCells_x (P := P) o1 news news' cs (o + n * i.size) 0 w en.cells hrn h1n (by rw [hln, Nat.add_zero]; rw [Nat.add_mul] at hfit; omega) o4 o5 o2
                  have hORel : ORel m w' en (.row (setMany cs (o + n * i.size) news) true) := ⟨o1, huf, by rw [setMany_length]; exact o3, hcells, by simpa using hrel⟩
                  obtain ⟨g1, g2⟩ := h.write hb ownb _ hORel rfl hsz hoth hos htape hout
                  refine ⟨w', m, _, ?_, .slice hb hroom a2 (fun _ => by simpa [UNK] using hcap) a4, g1, g2⟩
                  rw [run_append_in t u ty e i ud ht hu hnu hi hS hroom]
                  simp only [add_add, hrun, Result.andThen_ok]
                · rename_i hfit
                  cases hv
                  by_cases hroom : n + k ≤ c'
                  · have hcn : (n + k) * i.size ≤ c' * i.size := Nat.mul_le_mul_right _ hroom
                    obtain ⟨w', hrun, hsz, hoth, hos, htape, hout, hcells, huf, hrel, hkeep, hnew⟩ := run_storeCells_x (P := P) o1 news news' cs (o + n * i.size) 0 w en.cells hrn h1n (by rw [hln, Nat.add_zero]; rw [Nat.add_mul] at hcn; omega) o4 o5 o2
                    have hle' : Plan.le m (m.put H.next ⟨en.a.add o, en.cells - o⟩) := Plan.le_put _ h.fresh
                    have hlen' : ((cs.drop o).take (n * i.size) ++ news).length = (n + k) * i.size := by rw [List.length_append, hlo, hln, Nat.add_mul]
                    have hORel : ORel (m.put H.next ⟨en.a.add o, en.cells - o⟩) w' ⟨en.a.add o, en.cells - o⟩ (.row ((cs.drop o).take (n * i.size) ++ news) true) := by
                      refine ⟨add_spot o1 o, by rw [add_block]; exact huf, by rw [hlen']; simp only; omega, fun j hj => ?_, fun j v hj => ?_⟩
                      · simp only at hj ⊢
                        rw [add_add]; exact hcells (o + j) (by omega)
                      · simp only
                        rw [add_add]
                        rw [List.getElem?_append] at hj
                        split at hj
                        · rename_i hjl
                          rw [hlo] at hjl
                          obtain ⟨u', hu', hru⟩ := ho2.get hj
                          have hold := ho1 j u' hu'
                          rw [add_add] at hold
                          exact ⟨h1o v (List.mem_of_getElem? hj), u', by rw [hkeep (o + j) (.inl (by omega))]; exact hold, hru.mono hle'⟩
                        · rename_i hjl
                          rw [hlo] at hj hjl
                          obtain ⟨u', hu', hru⟩ := hrn.get hj
                          have := hnew (j - n * i.size) u' hu'
                          rw [show o + n * i.size + 0 + (j - n * i.size) = o + j by omega] at this
                          exact ⟨h1n v (List.mem_of_getElem? hj), u', this, hru.mono hle'⟩
                    obtain ⟨g1, g2⟩ := h.rename hb ownb _ (by simp only [add_block]) hORel rfl hsz hoth hos htape hout
                    refine ⟨w', _, .slice (some (en.a.add o)) (n + k) c', ?_, ?_, g1, g2⟩
                    · rw [run_append_in t u ty e i ud ht hu hnu hi hS hroom]
                      simp only [add_add, hrun, Result.andThen_ok]
                    · have := VRel.slice (m := m.put H.next ⟨en.a.add o, en.cells - o⟩) (o := 0) (n := n + k) (c := UNK i.size) (c' := c') (Plan.put_same _ _ _) hroom a2 (fun _ => by simp only [UNK, Nat.add_sub_cancel_left]; omega) (by intro hh; simp [UNK] at hh; omega)
                      simpa only [add_zero] using this
                  · obtain ⟨k1, k2⟩ := h.kill b
                    exact eff_grown (ty := ty) h k1 k2 rfl ht hu hnu hi hz hzs hS (by omega) (hfo _) h47 h48 hrn ho2 h1n h1o hln hlo
              · cases hv
          · cases hv
end
end Go.X
