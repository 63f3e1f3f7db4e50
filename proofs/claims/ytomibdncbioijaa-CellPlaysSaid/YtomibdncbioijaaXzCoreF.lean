/- Operations that read memory; that make new memory; values put together. -/
import Derived.Test.YtomibdncbioijaaXzCoreE
import Derived.Laws.BytesArg
import Derived.Laws.MakeOwn
set_option linter.unusedVariables false
set_option linter.unusedSimpArgs false
namespace Go.X
open Go Go.RowKit

/-! ### values put together -/
def putAll (cs : List Value) (o : Nat) (vs : List Value) : List Value := setMany cs o vs

def xfill (place : Nat → Option (Nat × Nat)) (cells : List Value) : List (Nat × Value) → Option (List Value)
  | [] => some cells
  | (i, v) :: rest => match place i with
    | none => none
    | some (off, size) => if notTuple v && (v.cells.size == size && decide (off + v.cells.size ≤ cells.length)) then xfill place (setMany cells off v.cells.toList) rest else none

theorem foldl_set_many (vs : List Value) : ∀ (cells : Array Value) (off j : Nat), ((vs.zipIdx j).foldl (fun cs (x : Value × Nat) => cs.setIfInBounds (off + x.2) x.1) cells).toList = setMany cells.toList (off + j) vs := by
  induction vs with
  | nil => intro cells off j; rfl
  | cons v vs ih =>
    intro cells off j
    simp only [List.zipIdx_cons, List.foldl_cons, setMany]
    rw [ih]
    simp [Nat.add_assoc]

theorem LRel.setMany {m : Plan} {vs vs' : List Value} (hv : LRel m vs vs') : ∀ {cs cs' : List Value} (o : Nat), LRel m cs cs' → LRel m (setMany cs o vs) (setMany cs' o vs') := by
  induction vs generalizing vs' with
  | nil => intro cs cs' o h; have : vs' = [] := List.eq_nil_of_length_eq_zero hv.1.symm; subst this; exact h
  | cons v vs ih =>
    intro cs cs' o h
    cases vs' with
    | nil => have := hv.1; simp at this
    | cons v' vs' => exact ih hv.tail (o + 1) (h.set hv.head o)

theorem oneCell_setMany {vs : List Value} : ∀ {cs : List Value} (o : Nat), (∀ v ∈ vs, v.oneCell' = true) → (∀ v ∈ cs, v.oneCell' = true) → ∀ v ∈ setMany cs o vs, v.oneCell' = true := by
  induction vs with
  | nil => intro cs o _ h; exact h
  | cons x vs ih =>
    intro cs o h1 h2
    exact ih (o + 1) (fun v hv => h1 v (by simp [hv])) (fun v hv => by
      rcases List.mem_or_eq_of_mem_set hv with h | h
      · exact h2 v h
      · exact h ▸ h1 x (by simp))

theorem xfill_run {m : Plan} {place : Nat → Option (Nat × Nat)} : ∀ (parts parts' : List (Nat × Value)) (cells : List Value) (cells' : Array Value) (out : List Value),
    parts.map (·.1) = parts'.map (·.1) → LRel m (parts.map (·.2)) (parts'.map (·.2)) → LRel m cells cells'.toList → (∀ v ∈ cells, v.oneCell' = true) → xfill place cells parts = some out →
    ∃ out', Instr.fill place cells' parts' = some out' ∧ LRel m out out'.toList ∧ ∀ v ∈ out, v.oneCell' = true := by
  intro parts
  induction parts with
  | nil =>
    intro parts' cells cells' out h1 h2 h3 h4 h
    have : parts' = [] := List.eq_nil_of_length_eq_zero (by simpa using congrArg List.length h1.symm)
    subst this
    simp [xfill] at h
    subst h
    exact ⟨cells', rfl, h3, h4⟩
  | cons p parts ih =>
    intro parts' cells cells' out h1 h2 h3 h4 h
    cases parts' with
    | nil => simp at h1
    | cons p' parts' =>
      obtain ⟨i, v⟩ := p
      obtain ⟨i', v'⟩ := p'
      simp only [List.map_cons, List.cons.injEq] at h1
      obtain ⟨rfl, h1⟩ := h1
      simp only [List.map_cons] at h2
      simp only [xfill] at h
      cases hp : place i with
      | none => simp [hp] at h
      | some os =>
        obtain ⟨off, size⟩ := os
        simp only [hp] at h
        split at h
        · rename_i hc
          simp only [Bool.and_eq_true, beq_iff_eq, decide_eq_true_eq] at hc
          have hcr := h2.head.cells
          have hsz : v'.cells.size = v.cells.size := by have := hcr.1; simpa using this.symm
          have hlen : cells'.size = cells.length := by have := h3.1; simpa using this.symm
          have hfold : (v'.cells.zipIdx.foldl (fun cs (x : Value × Nat) => cs.setIfInBounds (off + x.2) x.1) cells').toList = setMany cells'.toList off v'.cells.toList := by
            have := foldl_set_many v'.cells.toList cells' off 0
            rw [Nat.add_zero] at this
            rw [← this, ← Array.foldl_toList]
            simp
          obtain ⟨out', ho, hr, h1c⟩ := ih parts' _ (v'.cells.zipIdx.foldl (fun cs (x : Value × Nat) => cs.setIfInBounds (off + x.2) x.1) cells') out h1 h2.tail (by
            rw [hfold]; exact hcr.setMany off h3) (oneCell_setMany off (h2.head.cells1 hc.1) h4) h
          refine ⟨out', ?_, hr, h1c⟩
          simp only [Instr.fill, hp, hsz]
          rw [if_neg (by simp [hc.2.1]; omega)]
          exact ho
        · cases h

def fieldPlaces (P : Program) (fs : List Field) : Option (List (Nat × Nat)) := match fs with
  | [] => some []
  | f :: fs => match P.info? f.type, fieldPlaces P fs with
    | some i, some r => some ((f.offset, i.size) :: r)
    | _, _ => none
theorem fieldPlaces_run {P : Program} (w : World) : ∀ (fs : List Field) (r : List (Nat × Nat)), fieldPlaces P fs = some r →
    (fs.mapM (fun f => (do pure (f.offset, ← sizeOf f.type) : Sem (Nat × Nat)))).run P w = .ok r w := by
  intro fs
  induction fs with
  | nil => intro r h; simp [fieldPlaces] at h; subst h; rfl
  | cons f fs ih =>
    intro r h
    simp only [fieldPlaces] at h
    cases hi : P.info? f.type with
    | none => simp [hi] at h
    | some i =>
      cases hr : fieldPlaces P fs with
      | none => simp [hi, hr] at h
      | some r0 =>
        simp only [hi, hr, Option.some.injEq] at h
        subst h
        simp only [List.mapM_cons, Sem.run_bind, sizeOf, typeInfo, run_program, Result.andThen_ok, hi, Sem.run_pure]
        have := ih r0 hr
        simp only [sizeOf, typeInfo] at this
        rw [this]
        rfl

def xbuild (P : Program) (t : TypeId) (parts : List (Nat × Value)) : Option Value :=
  match P.info? t, P.underlying t with
  | some inf, some (.struct fs) => match inf.zero, fieldPlaces P fs.toList with
    | some z, some pl => if plainB 9 z && notTuple z then (xfill (fun i => pl[i]?) z.cells.toList parts).map fun cs => .agg cs.toArray else none
    | _, _ => none
  | some inf, some (.array _ e) => match inf.zero, P.info? e with
    | some z, some ie => if plainB 9 z && notTuple z then (xfill (fun i => some (i * ie.size, ie.size)) z.cells.toList parts).map fun cs => .agg cs.toArray else none
    | _, _ => none
  | _, _ => none

section
variable {P : Program} {m : Plan} {ρ ρ' : Operand → Value}

theorem parts_rel (ps : Array (Nat × Operand)) (h : ∀ x ∈ ps.toList.map (·.2), VRel m (ρ x) (ρ' x)) :
    ((ps.toList.map fun x => (x.1, ρ x.2)).map (·.1) = (ps.map fun (i, x) => (i, ρ' x)).toList.map (·.1)) ∧
    LRel m ((ps.toList.map fun x => (x.1, ρ x.2)).map (·.2)) ((ps.map fun (i, x) => (i, ρ' x)).toList.map (·.2)) := by
  constructor
  · simp
  · simp only [Array.toList_map, List.map_map]
    exact LRel.map _ _ _ fun x hx => h x.2 (List.mem_map.2 ⟨x, hx, rfl⟩)

theorem xbuild_run {t : TypeId} {ps : Array (Nat × Operand)} {v : Value} (hp : ∀ x ∈ ps.toList.map (·.2), VRel m (ρ x) (ρ' x))
    (h : xbuild P t (ps.toList.map fun x => (x.1, ρ x.2)) = some v) : ∃ v', VRel m v v' ∧ ∀ w, (Instr.build t (ps.map fun (i, x) => (i, ρ' x))).run P w = .ok v' w := by
  obtain ⟨hp1, hp2⟩ := parts_rel ps hp
  unfold xbuild at h
  cases hi : P.info? t with
  | none => simp [hi] at h
  | some inf =>
    cases hu : P.underlying t with
    | none => simp [hi, hu] at h
    | some ud =>
      cases ud <;> (try simp only [hi, hu] at h) <;> try (cases h; done)
      · rename_i n e
        cases hz : inf.zero with
        | none => simp [hz] at h
        | some z =>
          cases hie : P.info? e with
          | none => simp [hz, hie] at h
          | some ie =>
            simp only [hz, hie] at h
            split at h
            · rename_i hpl
              simp only [Bool.and_eq_true] at hpl
              obtain ⟨cs, hcs, rfl⟩ := Option.map_eq_some_iff.1 h
              have hzr := (plainB_rel 9 z hpl.1).rel m
              obtain ⟨out', ho, hr, h1⟩ := xfill_run _ _ _ z.cells _ hp1 hp2 hzr.cells (hzr.cells1 hpl.2) hcs
              refine ⟨.agg out', VRel.agg_iff.2 ⟨_, rfl, by simpa [ARel] using hr, by simpa using h1⟩, fun w => ?_⟩
              simp only [Instr.build, Sem.run_bind, zeroValue, typeInfo, run_program, hi, Result.andThen_ok, Sem.run_pure, hz, run_underlying hu, sizeOf, hie, ho]
            · cases h
      · rename_i fs
        cases hz : inf.zero with
        | none => simp [hz] at h
        | some z =>
          cases hpl' : fieldPlaces P fs.toList with
          | none => simp [hz, hpl'] at h
          | some pl =>
            simp only [hz, hpl'] at h
            split at h
            · rename_i hpl
              simp only [Bool.and_eq_true] at hpl
              obtain ⟨cs, hcs, rfl⟩ := Option.map_eq_some_iff.1 h
              have hzr := (plainB_rel 9 z hpl.1).rel m
              obtain ⟨out', ho, hr, h1⟩ := xfill_run _ _ _ z.cells _ hp1 hp2 hzr.cells (hzr.cells1 hpl.2) hcs
              refine ⟨.agg out', VRel.agg_iff.2 ⟨_, rfl, by simpa [ARel] using hr, by simpa using h1⟩, fun w => ?_⟩
              have hm := fieldPlaces_run (P := P) w fs.toList pl hpl'
              have hm' : (fs.mapM (fun f => (do pure (f.offset, ← sizeOf f.type) : Sem (Nat × Nat)))).run P w = .ok pl.toArray w := by
                rw [Array.mapM_eq_mapM_toList]
                simp only [Sem.run_map, hm, Result.andThen_ok]
              simp only [Instr.build, Sem.run_bind, zeroValue, typeInfo, run_program, hi, Result.andThen_ok, Sem.run_pure, hz, run_underlying hu]
              rw [hm']
              simp only [Result.andThen_ok]
              have : (fun (i : Nat) => pl.toArray[i]?) = fun (i : Nat) => pl[i]? := by funext i; simp
              rw [this, ho]
              rfl
            · cases h

/-! ### new memory: what it holds, and what is told of it -/
def zerosL (z : List Value) (n : Nat) : List Value := (List.replicate n z).flatten

structure NewRow where
  cs : List Value
  val : Nat → Value

def xalloc (P : Program) (ρ : Operand → Value) (o : Oper) : Option NewRow :=
  match o.op with
  | .alloc el => match P.info? el with
    | some inf => match inf.zero with
      | some z => if plainB 9 z && notTuple z then some ⟨z.cells.toList, fun b => .pointer (some ⟨b, 0, none⟩)⟩ else none
      | none => none
    | none => none
  | .box _ x => if notTuple (ρ x) then some ⟨(ρ x).cells.toList, fun b => .pointer (some ⟨b, 0, none⟩)⟩ else none
  | .buildSlice t len parts => match P.underlying t with
    | some (.slice e) => match P.info? e with
      | some inf => match inf.zero with
        | some z => if plainB 9 z && notTuple z && decide (len * inf.size ≤ 16777216) && (z.cells.size == inf.size) && decide (0 < inf.size) && decide (len ≤ 16777216) then
            (xfill (fun i => some (i * inf.size, inf.size)) (zerosL z.cells.toList len) (parts.toList.map fun x => (x.1, ρ x.2))).map fun cs => ⟨cs, fun b => .slice (some ⟨b, 0, none⟩) len (UNK inf.size)⟩ else none
        | none => none
      | none => none
    | _ => none
  | .makeSlice t l c => match P.underlying t with
    | some (.slice e) => match P.info? e with
      | some inf => match inf.zero with
        | some z => match ρ l, ρ c with
          | .int _ n, .int _ q => if 0 ≤ n ∧ n = q ∧ n * inf.bytes ≤ 140737488355328 ∧ n ≤ 1000000000000 ∧ plainB 9 z = true ∧ notTuple z = true ∧ z.cells.size = inf.size ∧ 0 < inf.size then
              some ⟨zerosL z.cells.toList n.toNat, fun b => .slice (some ⟨b, 0, none⟩) n.toNat (UNK inf.size)⟩ else none
          | _, _ => none
        | none => none
      | none => none
    | _ => none
  | _ => none

structure Allocs (P : Program) (m : Plan) (ρ' : Operand → Value) (o : Oper) (r : NewRow) (c : Array Value) (el : TypeId) (f : Nat → Value) : Prop where
  run : ∀ w : World, (execOp ρ' o).run P w = .ok (.value (f w.heap.size)) (w.alloc (.cells c el))
  rel : LRel m r.cs c.toList
  one : ∀ v ∈ r.cs, v.oneCell' = true
  val : ∀ (m' : Plan) (b B : Nat), m' b = some ⟨⟨B, 0, none⟩, c.size⟩ → VRel m' (r.val b) (f B)

theorem zerosL_length (z : List Value) (n : Nat) : (zerosL z n).length = n * z.length := by simp [zerosL]
theorem zerosL_get (z : List Value) : ∀ (n i : Nat) (h : i < n * z.length), (zerosL z n)[i]? = z[i % z.length]? := by
  intro n
  induction n with
  | zero => intro i h; omega
  | succ n ih =>
    intro i h
    have hz : zerosL z (n + 1) = z ++ zerosL z n := by simp [zerosL, List.replicate_succ]
    rw [hz, List.getElem?_append]
    split
    · rename_i hi
      rw [Nat.mod_eq_of_lt hi]
    · rename_i hi
      have hle : z.length ≤ i := by omega
      rw [ih (i - z.length) (by rw [Nat.add_mul] at h; omega), Nat.mod_eq_sub_mod hle]
theorem zeros_rel {m : Plan} {z : Value} (hz : VRel m z z) {n sz : Nat} (hs : z.cells.size = sz) (hp : 0 < sz) : LRel m (zerosL z.cells.toList n) (madeCells z.cells (n * sz)).toList := by
  refine ⟨by rw [zerosL_length, Array.length_toList, Array.length_toList, size_madeCells, hs], fun i v v' a b => ?_⟩
  have hi : i < n * sz := by
    have := (List.getElem?_eq_some_iff.1 a).1
    rw [zerosL_length, Array.length_toList, hs] at this
    exact this
  rw [zerosL_get _ _ _ (by rw [Array.length_toList, hs]; exact hi)] at a
  have hlt : i % sz < z.cells.size := by rw [hs]; exact Nat.mod_lt _ hp
  have hb : v' = z.cells[i % sz]! := by
    simp only [madeCells, Array.toList_map, List.getElem?_map, Array.toList_range] at b
    rw [List.getElem?_range hi] at b
    simp only [Option.map_some, Option.some.injEq] at b
    rw [← b, hs]
  rw [Array.length_toList, hs] at a
  refine hz.cells.2 (i % sz) v v' a ?_
  rw [hb]
  simp [hlt]

theorem mem_zerosL {z : List Value} {n : Nat} {v : Value} (h : v ∈ zerosL z n) : v ∈ z := by
  simp only [zerosL, List.mem_flatten] at h
  obtain ⟨l, hl, hv⟩ := h
  rw [List.eq_of_mem_replicate hl] at hv
  exact hv

theorem ptr_val (c : Array Value) (m' : Plan) (b B : Nat) (h : m' b = some ⟨⟨B, 0, none⟩, c.size⟩) : VRel m' (.pointer (some ⟨b, 0, none⟩)) (.pointer (some ⟨B, 0, none⟩)) := by
  have := VRel.ptr (o := 0) h
  rwa [add_zero] at this

theorem xalloc_run {o : Oper} {r : NewRow} (hρ : OpsRel m ρ ρ' o) (h : xalloc P ρ o = some r) : ∃ c el f, Allocs P m ρ' o r c el f := by
  obtain ⟨dst, op, ty, pos, after, guard⟩ := o
  unfold OpsRel at hρ
  cases op with
  | alloc el =>
    simp only [xalloc] at h
    cases hi : P.info? el with
    | none => simp [hi] at h
    | some inf =>
      simp only [hi] at h
      cases hz : inf.zero with
      | none => simp [hz] at h
      | some z =>
        simp only [hz] at h
        split at h
        · rename_i hp
          simp only [Bool.and_eq_true] at hp
          cases h
          have hzr := (plainB_rel 9 z hp.1).rel m
          refine ⟨z.cells, el, fun B => .pointer (some ⟨B, 0, none⟩), ⟨fun w => ?_, hzr.cells, hzr.cells1 hp.2, ptr_val z.cells⟩⟩
          simp only [execOp, Instr.alloc, Sem.run_bind, zeroValue, typeInfo, run_program, hi, Result.andThen_ok, Sem.run_pure, hz, newVar, newRow, run_newObj, World.alloc_eq]
        · cases h
  | box el x =>
    have hx := hρ x (by simp [Op.operands])
    simp only [xalloc] at h
    split at h
    · rename_i hp
      cases h
      refine ⟨(ρ' x).cells, el, fun B => .pointer (some ⟨B, 0, none⟩), ⟨fun w => ?_, hx.cells, hx.cells1 hp, ptr_val _⟩⟩
      simp only [execOp, Instr.box, Sem.run_bind, newVar, newRow, run_newObj, World.alloc_eq, Result.andThen_ok, Sem.run_pure]
    · cases h
  | buildSlice t len parts =>
    have hps : ∀ x ∈ parts.toList.map (·.2), VRel m (ρ x) (ρ' x) := fun x hx => hρ x (by simpa [Op.operands] using hx)
    obtain ⟨hp1, hp2⟩ := parts_rel parts hps
    simp only [xalloc] at h
    cases hu : P.underlying t with
    | none => simp [hu] at h
    | some ud =>
      cases ud <;> (try simp only [hu] at h) <;> try (cases h; done)
      rename_i e
      cases hi : P.info? e with
      | none => simp [hi] at h
      | some inf =>
        simp only [hi] at h
        cases hz : inf.zero with
        | none => simp [hz] at h
        | some z =>
          simp only [hz] at h
          split at h
          · rename_i hp
            simp only [Bool.and_eq_true, beq_iff_eq, decide_eq_true_eq] at hp
            obtain ⟨⟨⟨⟨⟨hpl, hnt⟩, hsmall⟩, hsz⟩, hpos⟩, hlen⟩ := hp
            obtain ⟨cs, hcs, rfl⟩ := Option.map_eq_some_iff.1 h
            have hzr := (plainB_rel 9 z hpl).rel m
            obtain ⟨out', ho, hr, h1⟩ := xfill_run _ _ _ (madeCells z.cells (len * inf.size)) _ hp1 hp2 (zeros_rel hzr hsz hpos) (fun v hv => hzr.cells1 hnt v (mem_zerosL hv)) hcs
            have hlen' : out'.size = len * inf.size := by
              have e1 := hr.1
              have e2 : cs.length = len * inf.size := by
                have : ∀ (parts : List (Nat × Value)) (cells out : List Value), xfill (fun i => some (i * inf.size, inf.size)) cells parts = some out → out.length = cells.length := by
                  intro parts
                  induction parts with
                  | nil => intro cells out h; simp [xfill] at h; rw [h]
                  | cons p parts ih =>
                    intro cells out h
                    obtain ⟨i, v⟩ := p
                    simp only [xfill] at h
                    split at h
                    · rw [ih _ _ h, setMany_length]
                    · cases h
                rw [this _ _ _ hcs, zerosL_length, Array.length_toList, hsz]
              rw [e2] at e1
              simpa using e1.symm
            refine ⟨out', e, fun B => .slice (some ⟨B, 0, none⟩) len len, ⟨fun w => ?_, hr, h1, fun m' b B hb => ?_⟩⟩
            · simp only [execOp, Instr.buildSlice, Sem.run_bind, run_underlying hu, sizeOf, zeroValue, typeInfo, run_program, hi, Result.andThen_ok, Sem.run_pure, hz]
              rw [if_neg (by omega)]
              simp only [Sem.run_bind, Sem.run_pure, Result.andThen_ok, Sem.run_ite, Result.andThen_ite]
              by_cases h0 : len * inf.size = 0
              · have hl0 : len = 0 := by
                  rcases Nat.mul_eq_zero.1 h0 with h | h
                  · exact h
                  · omega
                subst hl0
                rw [if_pos h0]
                have e1 : (Array.range (0 * inf.size)).map (fun x => (#[] : Array Value)[x % (#[] : Array Value).size]!) = madeCells z.cells (0 * inf.size) := by simp [madeCells]
                rw [e1, ho]
                simp only [Sem.run_bind, newRow, run_newObj, World.alloc_eq, Result.andThen_ok, Sem.run_pure]
              · rw [if_neg h0]
                simp only [run_program, Result.andThen_ok, hi, Sem.run_pure, hz]
                have e1 : (Array.range (len * inf.size)).map (fun x => z.cells[x % z.cells.size]!) = madeCells z.cells (len * inf.size) := rfl
                rw [e1, ho]
                simp only [Sem.run_bind, newRow, run_newObj, World.alloc_eq, Result.andThen_ok, Sem.run_pure]
            · have := VRel.slice (m := m') (o := 0) (n := len) (c := UNK inf.size) (c' := len) hb (Nat.le_refl _) (by unfold maxLen; omega) (by intro _; simp [UNK, hlen']) (by intro h; simp [UNK] at h; omega)
              rwa [add_zero] at this
          · cases h
  | makeSlice t l c =>
    have hl := hρ l (by simp [Op.operands]); have hc := hρ c (by simp [Op.operands])
    simp only [xalloc] at h
    cases hu : P.underlying t with
    | none => simp [hu] at h
    | some ud =>
      cases ud <;> (try simp only [hu] at h) <;> try (cases h; done)
      rename_i e
      cases hi : P.info? e with
      | none => simp [hi] at h
      | some inf =>
        simp only [hi] at h
        cases hz : inf.zero with
        | none => simp [hz] at h
        | some z =>
          simp only [hz] at h
          generalize ρ l = vl at *
          generalize ρ c = vc at *
          cases vl <;> (try simp only [] at h) <;> try (cases h; done)
          cases vc <;> (try simp only [] at h) <;> try (cases h; done)
          rename_i k1 n k2 q
          split at h
          · rename_i hp
            obtain ⟨h0, rfl, hb, hbig, hpl, hnt, hsz, hpos⟩ := hp
            cases h
            have hzr := (plainB_rel 9 z hpl).rel m
            refine ⟨madeCells z.cells (n.toNat * inf.size), e, fun B => .slice (some ⟨B, 0, none⟩) n.toNat n.toNat, ⟨fun w => ?_, zeros_rel hzr hsz hpos, fun v hv => hzr.cells1 hnt v (mem_zerosL hv), fun m' b B hb => ?_⟩⟩
            · have := run_make (P := P) w t e inf z hu hi hz k1 k2 n n h0 (Int.le_refl _) (by rw [Int.mul_comm]; omega) (by omega)
              simp only [execOp, VRel.int_iff.1 hl, VRel.int_iff.1 hc, Sem.run_bind, this, Result.andThen_ok, Sem.run_pure]
            · have := VRel.slice (m := m') (o := 0) (n := n.toNat) (c := UNK inf.size) (c' := n.toNat) hb (Nat.le_refl _) (by unfold maxLen; omega) (by intro _; simp [UNK, size_madeCells]) (by intro h; simp [UNK] at h; omega)
              rwa [add_zero] at this
          · cases h
  | _ => simp [xalloc] at h

/-! ### reading -/
def numsOf : List Value → Option (List Int)
  | [] => some []
  | .int .u8 n :: r => (numsOf r).map (n :: ·)
  | _ => none
theorem numsOf_map {l : List Value} {xs : List Int} (h : numsOf l = some xs) : l = xs.map (Value.int .u8) := by
  induction l generalizing xs with
  | nil => simp [numsOf] at h; subst h; rfl
  | cons v l ih =>
    cases v <;> (try (simp [numsOf] at h; done))
    rename_i k n
    cases k <;> (try (simp [numsOf] at h; done))
    simp only [numsOf] at h
    obtain ⟨ys, hy, rfl⟩ := Option.map_eq_some_iff.1 h
    simp [ih hy]
theorem numsOf_nums (xs : List Int) : numsOf (xs.map (Value.int .u8)) = some xs := by
  induction xs with
  | nil => rfl
  | cons x xs ih => simp [numsOf, ih]

def loadOf (P : Program) (t : TypeId) (cs : List Value) (o : Nat) : Option Value :=
  match P.underlying t with
  | some (.struct _) | some (.array _ _) => match P.info? t with
    | some inf => if o + inf.size ≤ cs.length then some (.agg ((cs.drop o).take inf.size).toArray) else none
    | none => none
  | some _ => cs[o]?
  | none => none

/-- A part of a slice, by bounds that may lie behind its end, in a row of one's own that is long enough. -/
def xsliceR (H : Heap) (z : Nat) (v lo hi : Value) : Option Value :=
  match xslice z v (some lo) (some hi) none with
  | some u => some u
  | none => match v with
    | .slice (some ad) n c => match ad.spot with
      | none => match boundOf 0 (some lo), boundOf 0 (some hi) with
        | some l, some h => match H.get ad.block with
          | .row cs true => if l < h ∧ ad.off + h * z ≤ cs.length ∧ c = UNK z ∧ 0 < z then some (.slice (some ⟨ad.block, ad.off + l * z, none⟩) (h - l) c) else none
          | _ => none
        | _, _ => none
      | some _ => none
    | _ => none

def xread (P : Program) (ρ : Operand → Value) (H : Heap) (o : Oper) : Option Value :=
  match o.op with
  | .slice t x (some lo) (some hi) none => match P.underlying t with
    | some (.slice e) => match P.info? e with
      | some inf => xsliceR H inf.size (ρ x) (ρ lo) (ρ hi)
      | none => none
    | _ => none
  | .load t a => match ρ a with
    | .pointer (some ad) => match ad.spot with
      | none => match H.get ad.block with
        | .row cs _ => loadOf P t cs ad.off
        | _ => none
      | some _ => none
    | _ => none
  | .convert s d x => match P.underlying s, P.underlying d with
    | some (.slice e), some .string => match P.underlying e with
      | some (.int .u8) => match ρ x with
        | .slice none n _ => if n = 0 then some (.string (strOfNums [])) else none
        | .slice (some ad) n _ => match ad.spot with
          | some _ => if n = 0 then some (.string (strOfNums [])) else none
          | none => match H.get ad.block with
            | .row cs _ => if ad.off + n ≤ cs.length then (numsOf ((cs.drop ad.off).take n)).map fun xs => .string (strOfNums xs) else none
            | _ => none
        | _ => none
      | _ => none
    | _, _ => none
  | _ => none

theorem LRel.nums {m : Plan} {xs : List Int} {l' : List Value} (h : LRel m (xs.map (Value.int .u8)) l') : l' = xs.map (Value.int .u8) := by
  induction xs generalizing l' with
  | nil => exact List.eq_nil_of_length_eq_zero h.1.symm
  | cons x xs ih =>
    cases l' with
    | nil => have := h.1; simp at this
    | cons v' l' => rw [VRel.int_iff.1 h.head, ih h.tail]; rfl

theorem CellsRel.one {m : Plan} {w : World} {a : Addr} {cs : List Value} (h : CellsRel m w a cs) : ∀ v ∈ cs, v.oneCell' = true := fun v hv => by
  obtain ⟨i, hi⟩ := List.getElem?_of_mem hv
  exact (h i v hi).1

theorem xsliceR_run {H : Heap} {w : World} (hH : HRel m H w) {t e : TypeId} {inf : TypeInfo} (ht : P.underlying t = some (.slice e)) (hi : P.info? e = some inf) {x x' lo lo' hv hv' v : Value} (hx : VRel m x x') (h1 : VRel m lo lo') (h2 : VRel m hv hv')
    (h : xsliceR H inf.size x lo hv = some v) : ∃ v', VRel m v v' ∧ (Instr.slice t x' (some lo') (some hv') none).run P w = .ok v' w := by
  have r1 : OpRel m (some lo) (some lo') := .inr ⟨_, _, rfl, rfl, h1⟩
  have r2 : OpRel m (some hv) (some hv') := .inr ⟨_, _, rfl, rfl, h2⟩
  unfold xsliceR at h
  cases hs : xslice inf.size x (some lo) (some hv) none with
  | some u =>
    rw [hs] at h
    cases h
    obtain ⟨v', k1, k2⟩ := xslice_run (P := P) ht hi hx r1 r2 (.inl ⟨rfl, rfl⟩) hs
    exact ⟨v', k1, k2 w⟩
  | none =>
    rw [hs] at h
    cases hx with
    | bool | int | string | nilptr | ptr | nilmap | map | func | nilFunc | nilIface | iface | agg | tuple => cases h
    | nilslice => cases h
    | empty hc => cases h
    | slice hb hn hc hu hk =>
      rename_i b o n c c' en
      simp only at h
      cases hl : boundOf 0 (some lo) with
      | none => rw [hl] at h; cases h
      | some l =>
        cases hh : boundOf 0 (some hv) with
        | none => rw [hl, hh] at h; cases h
        | some q =>
          rw [hl, hh] at h
          simp only at h
          cases hg : H.get b with
          | dead => rw [hg] at h; cases h
          | map es => rw [hg] at h; cases h
          | row cs own =>
            rw [hg] at h
            cases own with
            | false => cases h
            | true =>
              simp only at h
              split at h
              · rename_i hz
                obtain ⟨z1, z2, z3, z4⟩ := hz
                cases h
                have hO := hH.obj b en hb
                rw [hg] at hO
                have hcells := hO.2.2.1
                have e2 := hu (by rw [z3]; unfold UNK; omega)
                rw [z3] at e2
                simp only [UNK, Nat.add_sub_cancel_left] at e2
                have hq : q ≤ c' := by
                  refine Classical.byContradiction fun hne => ?_
                  have : (c' + 1) * inf.size ≤ q * inf.size := Nat.mul_le_mul_right _ (by omega)
                  rw [Nat.add_mul] at this
                  omega
                have bl := r1.bound hl
                have bh := r2.bound hh
                have hb2 := run_sliceBounds2 (P := P) (isS := true) (len := n) (cap := c') (lo := some lo') (hi := some hv') (l := l) (h := q)
                  (by rcases bl with ⟨a, _, b⟩ | ⟨k, n, a, _, c, d⟩; exact .inl ⟨a, b⟩; exact .inr ⟨k, n, a, c, d⟩)
                  (by rcases bh with ⟨a, _, b⟩ | ⟨k, n, a, _, c, d⟩; cases a; exact .inr ⟨k, n, a, c, d⟩) (Nat.le_of_lt z1) hq w
                refine ⟨.slice (some (en.a.add (o + l * inf.size))) (q - l) (c' - l), .slice hb (by omega) (by omega) (fun hw => ?_) (fun hw => ?_), ?_⟩
                · rw [z3]
                  simp only [UNK, Nat.add_sub_cancel_left]
                  have : l * inf.size + (c' - l) * inf.size = c' * inf.size := by rw [← Nat.add_mul]; congr 1; omega
                  omega
                · rw [z3] at hw; unfold UNK at hw; omega
                · simp only [Instr.slice, Sem.run_bind, run_underlying ht, Result.andThen_ok, hb2, sizeOf, typeInfo, run_program, hi, Sem.run_pure]
                  rw [if_neg (by omega)]
                  simp [add_add]
              · cases h

theorem xread_run {o : Oper} {H : Heap} {v : Value} {w : World} (hH : HRel m H w) (hρ : OpsRel m ρ ρ' o) (h : xread P ρ H o = some v) :
    ∃ v', VRel m v v' ∧ (execOp ρ' o).run P w = .ok (.value v') w := by
  obtain ⟨dst, op, ty, pos, after, guard⟩ := o
  unfold OpsRel at hρ
  cases op with
  | slice t x lo hi mx =>
    cases lo with
    | none => cases h
    | some lo => cases hi with
      | none => cases h
      | some hi => cases mx with
        | some q => cases h
        | none =>
          simp only [xread] at h
          cases hu : P.underlying t with
          | none => rw [hu] at h; cases h
          | some ud =>
            cases ud <;> rw [hu] at h <;> try (cases h; done)
            rename_i e
            simp only at h
            cases hinf : P.info? e with
            | none => rw [hinf] at h; cases h
            | some inf =>
              rw [hinf] at h
              obtain ⟨v', k1, k2⟩ := xsliceR_run hH hu hinf (hρ x (by simp [Op.operands])) (hρ lo (by simp [Op.operands])) (hρ hi (by simp [Op.operands])) h
              refine ⟨v', k1, ?_⟩
              simp only [execOp, Option.map_some, Option.map_none, Instr.sliceAt, Sem.run_bind, run_underlying hu, Result.andThen_ok, k2, Sem.run_pure]
  | load t a =>
    have ha := hρ a (by simp [Op.operands])
    simp only [xread] at h
    generalize hq0 : ρ a = va at *
    generalize hq : ρ' a = va' at *
    cases ha with
    | bool | int | string | nilptr | slice | nilslice | empty | nilmap | map | func | nilFunc | nilIface | iface | agg | tuple => cases h
    | ptr hb =>
      rename_i b o e
      simp only at h
      cases hg : H.get b with
      | dead => simp [hg] at h
      | map es => simp [hg] at h
      | row cs own =>
        simp only [hg] at h
        have hc := hH.cells hb hg
        unfold loadOf at h
        have agg : ∀ inf : TypeInfo, P.info? t = some inf → (if o + inf.size ≤ cs.length then some (Value.agg ((cs.drop o).take inf.size).toArray) else none) = some v →
            (isAgg t).run P w = .ok true w → ∃ v', VRel m v v' ∧ (execOp ρ' ⟨dst, .load t a, ty, pos, after, guard⟩).run P w = .ok (.value v') w := by
          intro inf hi hv hag
          split at hv
          · rename_i hle
            cases hv
            obtain ⟨vs', h1, h2, h3⟩ := hc.read o inf.size hle
            refine ⟨.agg vs'.toArray, VRel.agg_iff.2 ⟨_, rfl, by simpa [ARel] using h2, fun u hu => ?_⟩, ?_⟩
            · simp only at hu
              exact hc.one u (List.mem_of_mem_drop (List.mem_of_mem_take hu))
            · have hl := run_loadCells_list (P := P) w (e.a.add o) vs' h1
              rw [h3] at hl
              simp only [execOp, hq, Instr.loadAt, Instr.sureAddr, loadVar, Sem.run_bind, Sem.run_pure, Result.andThen_ok, hag, if_true, sizeOf, typeInfo, run_program, hi, hl]
          · cases hv
        have plain : cs[o]? = some v → (isAgg t).run P w = .ok false w → ∃ v', VRel m v v' ∧ (execOp ρ' ⟨dst, .load t a, ty, pos, after, guard⟩).run P w = .ok (.value v') w := by
          intro hv hag
          obtain ⟨_, v', hcell, hr⟩ := hc o v hv
          exact ⟨v', hr, by simp only [execOp, hq, Instr.loadAt, Instr.sureAddr, loadVar, Sem.run_bind, Sem.run_pure, Result.andThen_ok, hag, Bool.false_eq_true, if_false, run_load, hcell]⟩
        cases hu : P.underlying t with
        | none => simp [hu] at h
        | some ud =>
          have hag : (isAgg t).run P w = .ok (match ud with | .struct _ | .array _ _ => true | _ => false) w := by
            simp only [isAgg, Sem.run_bind, run_underlying hu, Result.andThen_ok]
            cases ud <;> rfl
          cases ud <;> (try simp only [hu] at h) <;> first
            | exact plain h hag
            | (cases hi : P.info? t with
               | none => simp [hi] at h
               | some inf => simp only [hi] at h; exact agg inf hi h hag)
  | convert s d x =>
    have hx := hρ x (by simp [Op.operands])
    simp only [xread] at h
    cases hs : P.underlying s with
    | none => simp [hs] at h
    | some us =>
      cases us <;> (try simp only [hs] at h) <;> try (cases h; done)
      rename_i e
      cases hd : P.underlying d with
      | none => simp [hd] at h
      | some ud =>
        cases ud <;> (try simp only [hd] at h) <;> try (cases h; done)
        cases he : P.underlying e with
        | none => simp [he] at h
        | some ue =>
          cases ue <;> (try simp only [he] at h) <;> try (cases h; done)
          rename_i k
          cases k <;> (try simp only [] at h) <;> try (cases h; done)
          generalize hq0 : ρ x = vx at *
          generalize hq : ρ' x = vx' at *
          have fin : ∀ (s' : ByteArray), (convert s d vx').run P w = .ok (.string s') w → v = .string s' → ∃ v', VRel m v v' ∧ (execOp ρ' ⟨dst, .convert s d x, ty, pos, after, guard⟩).run P w = .ok (.value v') w := by
            intro s' hr hv
            subst hv
            exact ⟨_, .string s', by simp only [execOp, hq, Sem.run_bind, hr, Result.andThen_ok, Sem.run_pure]⟩
          cases hx with
          | bool | int | string | nilptr | ptr | nilmap | map | func | nilFunc | nilIface | iface | agg | tuple => cases h
          | nilslice =>
            simp only [if_true] at h
            cases h
            refine fin _ (run_convert_bytes_nil (P := P) w s e hs he 0 0 d hd) ?_
            congr 1
          | empty hc =>
            rename_i a' c'
            simp only [if_true] at h
            cases h
            obtain ⟨bl, of, sp⟩ := a'
            refine fin (strOfNums []) ?_ rfl
            simp only [convert, Sem.run_bind, run_underlying hs, run_underlying hd, run_underlying he, Result.andThen_ok, Conv.bytesToString, loadCells, loadCellsFrom, Sem.run_pure]
            rfl
          | slice hb a1 a2 a3 a4 =>
            rename_i b o n c c' en
            simp only at h
            cases hg : H.get b with
            | dead => simp [hg] at h
            | map es => simp [hg] at h
            | row cs own =>
              simp only [hg] at h
              split at h
              · rename_i hle
                obtain ⟨xs, hxs, rfl⟩ := Option.map_eq_some_iff.1 h
                have hnum := numsOf_map hxs
                have hlen : xs.length = n := by
                  have := congrArg List.length hnum
                  simp only [List.length_take, List.length_drop, List.length_map] at this
                  omega
                obtain ⟨vs', h1, h2, h3⟩ := (hH.cells hb hg).read o n hle
                rw [hnum] at h2
                have hvs := h2.nums
                rcases Nat.eq_zero_or_pos n with h0 | h0
                · subst h0
                  have : xs = [] := List.eq_nil_of_length_eq_zero hlen
                  subst this
                  refine fin (strOfNums []) ?_ rfl
                  simp only [convert, Sem.run_bind, run_underlying hs, run_underlying hd, run_underlying he, Result.andThen_ok, Conv.bytesToString, loadCells, loadCellsFrom, Sem.run_pure]
                  rfl
                · have hspot : (en.a.add o).spot = none := by
                    have hc0 := h1 0 (.int .u8 (xs.getD 0 0)) (by rw [hvs]; cases xs with | nil => simp at hlen; omega | cons x xs => rfl)
                    rw [add_zero] at hc0
                    unfold World.cell? at hc0
                    split at hc0
                    · split at hc0
                      · cases hc0
                      · rename_i hns; simpa using hns
                    · cases hc0
                  have hform : en.a.add o = ⟨(en.a.add o).block, (en.a.add o).off, none⟩ := by rw [← hspot]
                  refine fin _ ?_ rfl
                  rw [hform]
                  refine run_convert_bytes_arg (P := P) w s e hs he _ _ n c' xs hlen (fun i hi => ?_) d hd
                  have hci := h1 i (.int .u8 (xs.getD i 0)) (by rw [hvs]; simp [List.getD, List.getElem?_eq_getElem (show i < xs.length by omega)])
                  rwa [add_eq hspot] at hci
              · cases h
  | _ => simp [xread] at h
end
end Go.X
