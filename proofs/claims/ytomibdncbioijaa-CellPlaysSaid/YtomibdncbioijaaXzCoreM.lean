/- A region whose order is left open: the joining. -/
import Derived.Test.YtomibdncbioijaaXzCoreL
set_option linter.unusedVariables false
set_option linter.unusedSimpArgs false
namespace Go.X
open Go Go.RowKit

section
variable {P : Program} {call : FuncId → List Value → Heap → Option (Value × Heap)} {ops : Array Oper} {b : Array Nat} {base : Nat} {ts0 : Ts} {H0 : Heap}

/-- The run in the text's order. -/
structure Rn (P : Program) (call : FuncId → List Value → Heap → Option (Value × Heap)) (ops : Array Oper) (b : Array Nat) (base : Nat) (ts0 : Ts) (H0 : Heap) (s : Nat → DS) : Prop where
  ord : Ord P ops b
  zero : s 0 = ⟨ts0, [H0], [], none, undef, []⟩
  step : ∀ k, k < ops.size → dstep P call ops b base k (s k) = some (s (k + 1))

theorem Rn.of (hord : Ord P ops b) {σ : DS} (h : drun P call ops b base ops.size 0 ⟨ts0, [H0], [], none, undef, []⟩ = some σ) : ∃ s, Rn P call ops b base ts0 H0 s ∧ s ops.size = σ := by
  have key : ∀ (k i : Nat) (σ0 σ : DS), drun P call ops b base k i σ0 = some σ → ∃ s : Nat → DS, s i = σ0 ∧ s (i + k) = σ ∧ ∀ j, i ≤ j → j < i + k → dstep P call ops b base j (s j) = some (s (j + 1)) := by
    intro k
    induction k with
    | zero => intro i σ0 σ h; simp [drun] at h; subst h; exact ⟨fun _ => σ0, rfl, rfl, fun j h1 h2 => by omega⟩
    | succ k ih =>
      intro i σ0 σ h
      simp only [drun] at h
      cases hd : dstep P call ops b base i σ0 with
      | none => simp [hd] at h
      | some σ1 =>
        simp only [hd] at h
        obtain ⟨s, h1, h2, h3⟩ := ih (i + 1) σ1 σ h
        refine ⟨fun j => if j = i then σ0 else s j, by simp, by show (if i + (k + 1) = i then σ0 else s (i + (k + 1))) = σ; rw [if_neg (by omega), ← h2]; congr 1; omega, fun j hj1 hj2 => ?_⟩
        by_cases hj : j = i
        · subst hj; simp only [if_true]; rw [if_neg (by omega), h1]; exact hd
        · simp only [hj, if_false]; rw [if_neg (by omega)]; exact h3 j (by omega) (by omega)
  obtain ⟨s, h1, h2, h3⟩ := key ops.size 0 _ σ h
  rw [Nat.zero_add] at h2
  exact ⟨s, ⟨hord, h1, fun k hk => h3 k (by omega) (by omega)⟩, h2⟩

/-! what a step of it leaves -/
theorem dstep_ts {i : Nat} {σ σ' : DS} (h : dstep P call ops b base i σ = some σ') : ∃ o, ops[i]? = some o ∧ σ'.ts = putL σ.ts o.dst σ'.v := by
  unfold dstep at h
  cases ho : ops[i]? with
  | none => simp [ho] at h
  | some o =>
    refine ⟨o, rfl, ?_⟩
    simp only [ho] at h
    split at h
    · split at h
      all_goals (repeat' (split at h)) <;> first | (cases h; rfl) | cases h
    · split at h <;> (cases h; rfl)
theorem dstep_G {i : Nat} {σ σ' : DS} (h : dstep P call ops b base i σ = some σ') : (serOf P ops i = true ∧ (∃ H', σ'.G = σ.G ++ [H']) ∧ σ'.prev = some i) ∨ (serOf P ops i = false ∧ σ'.G = σ.G ∧ σ'.prev = σ.prev) := by
  unfold dstep at h
  cases ho : ops[i]? with
  | none => simp [ho] at h
  | some o =>
    simp only [ho] at h
    have hse : serOf P ops i = (serialB P o || (clsOf P o == .A && asSer P ops i)) := by simp [serOf, ho]
    by_cases hw : Region.wanted o (yieldedL ops σ.ts) = true
    · rw [if_pos hw] at h
      cases hc : clsOf P o <;> simp only [hc] at h
      · have hs : serOf P ops i = false := by rw [hse]; simp [serialB, hc]
        split at h
        · cases h; exact .inr ⟨hs, rfl, rfl⟩
        · cases h
      · have hs : serOf P ops i = false := by rw [hse]; simp [serialB, hc]
        split at h
        · cases h; exact .inr ⟨hs, rfl, rfl⟩
        · cases h
      · split at h
        · by_cases hs : serOf P ops i = true
          · rw [if_pos hs] at h; cases h; exact .inl ⟨hs, ⟨_, rfl⟩, rfl⟩
          · rw [if_neg hs] at h; cases h; exact .inr ⟨by simpa using hs, rfl, rfl⟩
        · cases h
      · have hs : serOf P ops i = true := by rw [hse]; simp [serialB, hc]
        split at h
        · cases h; exact .inl ⟨hs, ⟨_, rfl⟩, rfl⟩
        · cases h
      · have hs : serOf P ops i = true := by rw [hse]; simp [serialB, hc]
        split at h
        · split at h
          · cases h; exact .inl ⟨hs, ⟨_, rfl⟩, rfl⟩
          · cases h
        · cases h
    · rw [if_neg hw] at h
      by_cases hs : serOf P ops i = true
      · rw [if_pos hs] at h; cases h; exact .inl ⟨hs, ⟨_, rfl⟩, rfl⟩
      · rw [if_neg hs] at h; cases h; exact .inr ⟨by simpa using hs, rfl, rfl⟩
def wA (P : Program) (ops : Array Oper) (s : Nat → DS) (i : Nat) : Bool :=
  match ops[i]? with
  | some o => clsOf P o == .A && Region.wanted o (yieldedL ops (s i).ts) && !serOf P ops i
  | none => false
def rowOf (P : Program) (ops : Array Oper) (s : Nat → DS) (i : Nat) : NewRow :=
  match ops[i]? with
  | some o => (xalloc P (rho (s i).ts) o).getD ⟨[], fun _ => undef⟩
  | none => ⟨[], fun _ => undef⟩
theorem dstep_rows {s : Nat → DS} {i : Nat} (h : dstep P call ops b base i (s i) = some (s (i + 1))) : (s (i + 1)).rows = if wA P ops s i then (s i).rows ++ [(i, rowOf P ops s i)] else (s i).rows := by
  unfold dstep at h
  unfold wA rowOf
  cases ho : ops[i]? with
  | none => simp [ho] at h
  | some o =>
    simp only [ho] at h ⊢
    by_cases hw : Region.wanted o (yieldedL ops (s i).ts) = true
    · rw [if_pos hw] at h
      cases hc : clsOf P o <;> simp only [hc] at h ⊢
      case A =>
        cases hx : xalloc P (rho (s i).ts) o with
        | none => rw [hx] at h; cases h
        | some r =>
          rw [hx] at h
          simp only at h
          by_cases hs : serOf P ops i = true
          · rw [if_pos hs] at h; injection h with h; rw [← h]; simp [hs]
          · rw [if_neg hs] at h; injection h with h; rw [← h]; simp [hs, hw]
      all_goals (repeat' (split at h)) <;> (try (cases h; done)) <;> (injection h with h; rw [← h]) <;> simp_all
    · rw [if_neg hw] at h
      have hwf : Region.wanted o (yieldedL ops (s i).ts) = false := by simpa using hw
      simp only [hwf, Bool.and_false, Bool.false_and, Bool.false_eq_true, if_false]
      split at h <;> (injection h with h; rw [← h])

variable {s : Nat → DS}

theorem Rn.ts (r : Rn P call ops b base ts0 H0 s) : ∀ i, i ≤ ops.size → (s i).ts = tsL ops (fun k => (s (k + 1)).v) ts0 (fun k => decide (k < i)) ops.size := by
  intro i hi
  rw [tsL_prefix _ _ i ops.size hi]
  induction i with
  | zero => rw [r.zero]; rfl
  | succ i ih =>
    obtain ⟨o, ho, ht⟩ := dstep_ts (r.step i (by omega))
    rw [ht, ih (by omega)]
    show _ = (if decide (i < i + 1) = true then putL (tsL ops _ ts0 (fun k => decide (k < i + 1)) i) (dstOf ops i) (s (i + 1)).v else _)
    rw [if_pos (by simp)]
    have e1 : tsL ops (fun k => (s (k + 1)).v) ts0 (fun k => decide (k < i + 1)) i = tsL ops (fun k => (s (k + 1)).v) ts0 (fun k => decide (k < i)) i := tsL_full _ _ i fun k hk => by simp; omega
    rw [e1]
    simp [dstOf, ho]

theorem Rn.G (r : Rn P call ops b base ts0 H0 s) : ∀ i, i ≤ ops.size → (s i).G.length = cnt (serOf P ops) i + 1 ∧ ∀ c, c ≤ cnt (serOf P ops) i → (s ops.size).G.getD c noHeap = (s i).G.getD c noHeap := by
  have len : ∀ i, i ≤ ops.size → (s i).G.length = cnt (serOf P ops) i + 1 := by
    intro i
    induction i with
    | zero => intro _; rw [r.zero]; rfl
    | succ i ih =>
      intro hi
      rw [cnt_succ]
      rcases dstep_G (r.step i (by omega)) with ⟨h1, ⟨H', h2⟩, h3⟩ | ⟨h1, h2, h3⟩
      · rw [h2, List.length_append, ih (by omega), h1]; simp
      · rw [h2, ih (by omega), h1]; simp
  have mono : ∀ k i, i + k ≤ ops.size → ∀ c, c ≤ cnt (serOf P ops) i → (s (i + k)).G.getD c noHeap = (s i).G.getD c noHeap := by
    intro k
    induction k with
    | zero => intro i _ c _; rfl
    | succ k ih =>
      intro i hi c hc
      rw [← ih i (by omega) c hc]
      have hcl : c < (s (i + k)).G.length := by
        rw [len (i + k) (by omega)]
        have : cnt (serOf P ops) i ≤ cnt (serOf P ops) (i + k) := by
          clear ih hc
          induction k with
          | zero => exact Nat.le_refl _
          | succ k ih => rw [show i + (k + 1) = (i + k) + 1 by omega, cnt_succ]; have := ih (by omega); omega
        omega
      rcases dstep_G (r.step (i + k) (by omega)) with ⟨h1, ⟨H', h2⟩, h3⟩ | ⟨h1, h2, h3⟩
      · rw [show i + (k + 1) = i + k + 1 by omega, h2, List.getD_eq_getElem?_getD, List.getD_eq_getElem?_getD, List.getElem?_append_left hcl]
      · rw [show i + (k + 1) = i + k + 1 by omega, h2]
  exact fun i hi => ⟨len i hi, fun c hc => by have := mono (ops.size - i) i (by omega) c hc; rwa [show i + (ops.size - i) = ops.size by omega] at this⟩
theorem Rn.last (r : Rn P call ops b base ts0 H0 s) (i : Nat) (hi : i ≤ ops.size) : (s i).G.getLastD noHeap = (s ops.size).G.getD (cnt (serOf P ops) i) noHeap := by
  obtain ⟨h1, h2⟩ := r.G i hi
  rw [h2 _ (Nat.le_refl _)]
  rw [List.getLastD_eq_getLast?, List.getLast?_eq_getElem?, h1]
  rfl
theorem Rn.prev (r : Rn P call ops b base ts0 H0 s) : ∀ i, i ≤ ops.size → (s i).prev = lastL (serOf P ops) i := by
  intro i
  induction i with
  | zero => intro _; rw [r.zero]; rfl
  | succ i ih =>
    intro hi
    unfold lastL
    rcases dstep_G (r.step i (by omega)) with ⟨h1, h2, h3⟩ | ⟨h1, h2, h3⟩
    · rw [h3, h1]; rfl
    · rw [h3, h1, ih (by omega)]; rfl
theorem Rn.rows (r : Rn P call ops b base ts0 H0 s) : ∀ i, i ≤ ops.size → (s i).rows = ((List.range i).filter (wA P ops s)).map fun j => (j, rowOf P ops s j) := by
  intro i
  induction i with
  | zero => intro _; rw [r.zero]; rfl
  | succ i ih =>
    intro hi
    rw [dstep_rows (r.step i (by omega)), ih (by omega), List.range_succ, List.filter_append, List.map_append]
    cases h : wA P ops s i <;> simp [h]

theorem Rn.mem_pick (r : Rn P call ops b base ts0 H0 s) {i : Nat} (hi : i ≤ ops.size) {c p : Option Nat} {x : Nat × NewRow} :
    x ∈ pickRows b (s i).rows c p ↔ x.1 < i ∧ wA P ops s x.1 = true ∧ x.2 = rowOf P ops s x.1 ∧ cur b c x.1 = true ∧ was b p x.1 = false := by
  unfold pickRows
  rw [r.rows i hi]
  simp only [List.mem_filter, List.mem_map, List.mem_range, Bool.and_eq_true, Bool.not_eq_true']
  constructor
  · rintro ⟨⟨j, ⟨h1, h2⟩, rfl⟩, h3, h4⟩; exact ⟨h1, h2, rfl, h3, h4⟩
  · rintro ⟨h1, h2, h3, h4, h5⟩; exact ⟨⟨x.1, ⟨h1, h2⟩, by rw [← h3]⟩, h4, h5⟩
theorem Rn.nodup_pick (r : Rn P call ops b base ts0 H0 s) {i : Nat} (hi : i ≤ ops.size) (c p : Option Nat) : ((pickRows b (s i).rows c p).map (·.1)).Nodup := by
  unfold pickRows
  rw [r.rows i hi]
  have h0 : (((List.range i).filter (wA P ops s)).map fun j => (j, rowOf P ops s j)).Pairwise (fun x y => x.1 ≠ y.1) := by
    rw [List.pairwise_map]
    exact (List.nodup_range.filter _).imp fun h => h
  have h1 := h0.filter (fun x => cur b c x.1 && !was b p x.1)
  rw [List.Nodup, List.pairwise_map]
  exact h1

/-! ### how it stands, when some is done -/
structure Inv (P : Program) (ops : Array Oper) (b : Array Nat) (base : Nat) (ts0 : Ts) (s : Nat → DS) (m0 : Plan) (H00 : Heap) (w0 : World) (d0 : List Deferred) (L : Nat → Bool) (a : Act) (w : World) (m : Plan) : Prop where
  closed : Closed ops b L
  heap : HRel m ((s ops.size).G.getD (cnt (fun i => serOf P ops i && L i) ops.size) noHeap) w
  slots : TsRel m (tsL ops (fun k => (s (k + 1)).v) ts0 L ops.size) a
  defers : a.defers = d0
  fr : Fr m0 H00 w0 m ((s ops.size).G.getD (cnt (fun i => serOf P ops i && L i) ops.size) noHeap) w
  pend : ∀ j, j < ops.size → L j = true → wA P ops s j = true → was b (lastL (fun i => serOf P ops i && L i) ops.size) j = false →
    ∃ e, Pend m ((s ops.size).G.getD (cnt (fun i => serOf P ops i && L i) ops.size) noHeap) w w0.heap.size (base + j) (rowOf P ops s j) e
  apart : ∀ j k, L j = true → L k = true → wA P ops s j = true → wA P ops s k = true → was b (lastL (fun i => serOf P ops i && L i) ops.size) j = false → was b (lastL (fun i => serOf P ops i && L i) ops.size) k = false →
    j ≠ k → ∀ e e', m (base + j) = some e → m (base + k) = some e' → e.a.block ≠ e'.a.block
  idle : ∀ j, j < ops.size → wA P ops s j = true → L j = false → m (base + j) = none ∧ ((s ops.size).G.getD (cnt (fun i => serOf P ops i && L i) ops.size) noHeap).get (base + j) = .dead
  next : ∀ j, j < ops.size → wA P ops s j = true → base + j < ((s ops.size).G.getD (cnt (fun i => serOf P ops i && L i) ops.size) noHeap).next

theorem wanted_congr {ts ts' : Ts} {o : Oper} (h : ∀ t ∈ namesOf ops o, ts[t]? = ts'[t]?) : Region.wanted o (yieldedL ops ts) = Region.wanted o (yieldedL ops ts') := by
  unfold Region.wanted
  cases hg : o.guard with
  | none => rfl
  | some g =>
    obtain ⟨j, bb⟩ := g
    have : yieldedL ops ts j = yieldedL ops ts' j := by
      unfold yieldedL
      cases hd : (ops[j]?).bind (·.dst) with
      | none => rfl
      | some d =>
        simp only [Option.bind_some]
        rw [h d (by unfold namesOf; rw [hg]; simp only [dstOf, hd]; simp)]
    simp only [this]
theorem ops_rel2 {m : Plan} {ts ts' : Ts} {a : Act} (h : TsRel m ts' a) {o : Oper} (ho : operOk o = true) (hc : ∀ t ∈ namesOf ops o, ts'[t]? = ts[t]?) : OpsRel m (rho ts) a.eval o := by
  intro x hx
  have := ops_rel h ho x hx
  cases x with
  | tmp t =>
    have ht : t ∈ namesOf ops o := by
      unfold namesOf
      refine List.mem_append_right _ (List.mem_append_left _ ?_)
      unfold tmpsOf
      exact List.mem_filterMap.2 ⟨.tmp t, by simpa using hx, rfl⟩
    simp only [rho, List.getD_eq_getElem?_getD] at this ⊢
    rwa [hc t ht] at this
  | _ => exact this

/-- Serial ones that are done come first. -/
theorem ser_upto (hord : Ord P ops b) {L : Nat → Bool} (hc : Closed ops b L) {j : Nat} (hr : Rdy ops b L j) (hs : serOf P ops j = true) (i : Nat) (hi : serOf P ops i = true) : L i = decide (i < j) := by
  by_cases hij : i = j
  · subst hij; simp [hr.1]
  · rcases Nat.lt_or_ge i j with hlt | hge
    · simp [hlt, hr.2.2 i (hord.ser i j hlt hi hs)]
    · have hlt : j < i := by omega
      have : L i = false := by
        cases hL : L i with
        | false => rfl
        | true => have := (hc i hL).2 j (hord.ser j i hlt hs hi); rw [hr.1] at this; cases this
      simp [this]; omega
theorem lastL_ready (hord : Ord P ops b) {L : Nat → Bool} (hc : Closed ops b L) {j : Nat} (hr : Rdy ops b L j) (hs : serOf P ops j = true) : lastL (fun i => serOf P ops i && L i) ops.size = lastL (serOf P ops) j := by
  rw [lastL_prefix (f := fun i => serOf P ops i && L i) (j := j) ops.size (Nat.le_of_lt hr.2.1) fun i h1 h2 => ?_]
  · refine lastL_congr j fun i hi => ?_
    cases hsi : serOf P ops i with
    | false => rfl
    | true => rw [ser_upto hord hc hr hs i hsi]; simp [hi]
  · cases hsi : serOf P ops i with
    | false => rfl
    | true => rw [ser_upto hord hc hr hs i hsi]; simp; omega
theorem lastL_add (hord : Ord P ops b) {L : Nat → Bool} (hc : Closed ops b L) {j : Nat} (hr : Rdy ops b L j) (hs : serOf P ops j = true) : lastL (fun i => serOf P ops i && addL L j i) ops.size = some j := by
  rw [lastL_prefix (f := fun i => serOf P ops i && addL L j i) (j := j + 1) ops.size hr.2.1 fun i h1 h2 => ?_]
  · simp [lastL, hs, addL]
  · cases hsi : serOf P ops i with
    | false => rfl
    | true =>
      have := ser_upto hord hc hr hs i hsi
      simp only [addL, this]
      simp; omega
theorem lastL_stay {L : Nat → Bool} {j : Nat} (hs : serOf P ops j = false) (n : Nat) : lastL (fun i => serOf P ops i && addL L j i) n = lastL (fun i => serOf P ops i && L i) n :=
  lastL_congr n fun i hi => by
    by_cases hij : i = j
    · subst hij; simp [hs]
    · have : (i == j) = false := by simpa using hij
      simp [addL, this]
theorem cnt_stay {L : Nat → Bool} {j : Nat} (hs : serOf P ops j = false) (n : Nat) : cnt (fun i => serOf P ops i && addL L j i) n = cnt (fun i => serOf P ops i && L i) n :=
  cnt_congr n fun i hi => by
    by_cases hij : i = j
    · subst hij; simp [hs]
    · have : (i == j) = false := by simpa using hij
      simp [addL, this]
theorem cnt_more {L : Nat → Bool} {j : Nat} (hr : Rdy ops b L j) (hs : serOf P ops j = true) : cnt (fun i => serOf P ops i && addL L j i) ops.size = cnt (fun i => serOf P ops i && L i) ops.size + 1 := by
  rw [← cnt_add hr.2.1 (f := fun i => serOf P ops i && L i) (by simp [hr.1])]
  refine cnt_congr _ fun i hi => ?_
  by_cases hij : i = j
  · subst hij; simp [addL, hs]
  · have : (i == j) = false := by simpa using hij
    simp [addL, this]
end
end Go.X
