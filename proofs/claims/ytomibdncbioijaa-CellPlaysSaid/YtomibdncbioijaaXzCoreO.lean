/- A region whose order is left open: it stands in every order. -/
import Derived.Test.YtomibdncbioijaaXzCoreN
set_option linter.unusedVariables false
set_option linter.unusedSimpArgs false
namespace Go.X
open Go Go.RowKit

section
variable {P : Program} {call : FuncId → List Value → Heap → Option (Value × Heap)} {ops : Array Oper} {b : Array Nat} {base : Nat} {ts0 : Ts} {H0 : Heap} {s : Nat → DS}
  {m0 : Plan} {H00 : Heap} {w0 : World} {d0 : List Deferred}

theorem dstep_rds {i : Nat} {σ σ' : DS} (h : dstep P call ops b base i σ = some σ') : ∃ l, σ'.rds = σ.rds ++ l := by
  unfold dstep at h
  cases ho : ops[i]? with
  | none => simp [ho] at h
  | some o =>
    simp only [ho] at h
    split at h
    · split at h
      all_goals (repeat' (split at h)) <;> first | (cases h; done) | (injection h with h; rw [← h]; first | exact ⟨_, rfl⟩ | exact ⟨[], by simp⟩ | (simp only; split; exact ⟨_, rfl⟩; exact ⟨[], by simp⟩))
    · split at h <;> (injection h with h; rw [← h]; exact ⟨[], by simp⟩)
theorem Rn.rds (r : Rn P call ops b base ts0 H0 s) {i : Nat} (hi : i < ops.size) {x : Nat × Ts × Value} (hx : x ∈ (s (i + 1)).rds) : x ∈ (s ops.size).rds := by
  have key : ∀ k, i + 1 + k ≤ ops.size → x ∈ (s (i + 1 + k)).rds := by
    intro k
    induction k with
    | zero => intro _; exact hx
    | succ k ih =>
      intro hk
      obtain ⟨l, hl⟩ := dstep_rds (r.step (i + 1 + k) (by omega))
      rw [show i + 1 + (k + 1) = i + 1 + k + 1 by omega, hl]
      exact List.mem_append_left _ (ih (by omega))
  have := key (ops.size - (i + 1)) (by omega)
  rwa [show i + 1 + (ops.size - (i + 1)) = ops.size by omega] at this

theorem rd_stage {G : List Heap} {i : Nat} {ts : Ts} {v : Value} {o : Oper} (ho : ops[i]? = some o) (h : rdOk P ops b G (i, ts, v) = true) {c : Nat} (h1 : cnt (fun j => serOf P ops j && bB b i j) ops.size < c)
    (h2 : c ≤ cnt (fun j => serOf P ops j && !bB b j i) ops.size) : xread P (rho ts) (G.getD c noHeap) o = some v := by
  unfold rdOk at h
  simp only [ho, List.all_eq_true, List.mem_range] at h
  have hc : c < ops.size + 1 := by
    have : cnt (fun j => serOf P ops j && !bB b j i) ops.size ≤ ops.size := by
      unfold cnt
      exact Nat.le_trans (List.length_filter_le _ _) (by simp)
    omega
  have := h c hc
  simp only [Bool.or_eq_true, decide_eq_true_eq] at this
  rcases this with (h3 | h3) | h3
  · omega
  · omega
  · cases hx : xread P (rho ts) (G.getD c noHeap) o with
    | none => rw [hx] at h3; cases h3
    | some u => simp only [hx] at h3; rw [vEq_eq h3]

theorem getD_listed {listed : Array Bool} {i : Nat} (hi : i < listed.size) : (fun k => (listed.setIfInBounds i true).getD k false) = addL (fun k => listed.getD k false) i := by
  funext k
  simp only [addL]
  by_cases hk : k = i
  · subst hk; simp [hi]
  · have : (k == i) = false := by simpa using hk
    rw [getD_set_ne false (Ne.symm hk), this]
    rfl

/-- One operation more, whichever it is. -/
theorem Inv.step (hc : CallOK P call) (r : Rn P call ops b base ts0 H0 s) (hbase : H00.next ≤ base) (hok : ops.all operOk = true) (hrd : (s ops.size).rds.all (rdOk P ops b (s ops.size).G) = true)
    {L : Nat → Bool} {a : Act} {w : World} {m : Plan} (h : Inv P ops b base ts0 s m0 H00 w0 d0 L a w m) {j : Nat} (hr : Rdy ops b L j) {K : Act → World → Prop} {Q : Exit → Act → World → Prop}
    (hK : ∀ a' w' m', Inv P ops b base ts0 s m0 H00 w0 d0 (addL L j) a' w' m' → K a' w') : wpOp P ops Q j K a w := by
  have hj := hr.2.1
  have ho : ops[j]? = some ops[j] := Array.getElem?_eq_getElem hj
  generalize ops[j] = o at ho
  have hoo : operOk o = true := Array.all_eq_true_iff_forall_mem.1 hok o (Array.mem_of_getElem? ho)
  have hts : ∀ t ∈ namesOf ops o, (tsL ops (fun k => (s (k + 1)).v) ts0 L ops.size)[t]? = (s j).ts[t]? := fun t ht => by
    rw [r.ord.look h.closed ho hr _ _ ht, r.ts j (Nat.le_of_lt hj)]
  have hops : OpsRel m (rho (s j).ts) a.eval o := ops_rel2 h.slots hoo hts
  have hwant : Region.wanted o (yielded ops a.tmps) = Region.wanted o (yieldedL ops (s j).ts) := by
    rw [wanted_rel h.slots, wanted_congr hts]
  have hst := r.step j hj
  unfold wpOp
  simp only [ho, hwant]
  have wAj : wA P ops s j = (clsOf P o == .A && Region.wanted o (yieldedL ops (s j).ts) && !serOf P ops j) := by simp [wA, ho]
  have serj : serOf P ops j = (serialB P o || (clsOf P o == .A && asSer P ops j)) := by simp [serOf, ho]
  unfold dstep at hst
  simp only [ho] at hst
  by_cases hw : Region.wanted o (yieldedL ops (s j).ts) = true
  · rw [if_pos hw] at hst ⊢
    left
    cases hcl : clsOf P o <;> simp only [hcl] at hst
    · -- P
      cases hv : xP P (rho (s j).ts) o with
      | none => simp [hv] at hst
      | some v =>
        simp only [hv, Option.some.injEq] at hst
        obtain ⟨v', hr', hs'⟩ := xP_run hops hv
        unfold Oper.wp
        rw [hs' w]
        refine hK _ _ m (h.quiet r ho hr (by simp [serj, serialB, hcl]) (by rw [wAj, hcl]; rfl) ?_)
        rw [← hst]; exact hr'
    · -- R
      cases hv : xread P (rho (s j).ts) ((s j).G.getD (cnt (fun k => serOf P ops k && bB b j k) ops.size) noHeap) o with
      | none => rw [hv] at hst; cases hst
      | some v =>
        simp only [hv, Option.some.injEq] at hst
        have hread : xread P (rho (s j).ts) ((s ops.size).G.getD (cnt (fun i => serOf P ops i && L i) ops.size) noHeap) o = some v := by
          have hmin : cnt (fun i => serOf P ops i && bB b j i) ops.size ≤ cnt (fun i => serOf P ops i && L i) ops.size := cnt_le _ fun i hi hh => by
            simp only [Bool.and_eq_true] at hh ⊢; exact ⟨hh.1, hr.2.2 i hh.2⟩
          rcases Nat.lt_or_eq_of_le hmin with hlt | heq
          rotate_left
          · rw [← heq, (r.G j (Nat.le_of_lt hj)).2 _ ?_]
            · exact hv
            · rw [← cnt_prefix (f := serOf P ops) (n := ops.size) (Nat.le_of_lt hj)]
              refine cnt_le _ fun i hi hh => ?_
              simp only [Bool.and_eq_true, decide_eq_true_eq] at hh ⊢
              exact ⟨hh.1, r.ord.below j o i ho hh.2⟩
          have hmax : cnt (fun i => serOf P ops i && L i) ops.size ≤ cnt (fun i => serOf P ops i && !bB b i j) ops.size := by
            refine cnt_le _ fun i hi hh => ?_
            simp only [Bool.and_eq_true, Bool.not_eq_true'] at hh ⊢
            refine ⟨hh.1, ?_⟩
            cases hb : bB b i j with
            | false => rfl
            | true => have := (h.closed i hh.2).2 j hb; rw [hr.1] at this; cases this
          have hmem : (j, (s j).ts, v) ∈ (s ops.size).rds := r.rds hj (by rw [← hst]; simp only; rw [if_pos (Nat.lt_of_lt_of_le hlt hmax)]; simp)
          exact rd_stage ho (List.all_eq_true.1 hrd _ hmem) hlt hmax
        obtain ⟨v', hr', hs'⟩ := xread_run h.heap hops hread
        unfold Oper.wp
        rw [hs']
        refine hK _ _ m (h.quiet r ho hr (by simp [serj, serialB, hcl]) (by rw [wAj, hcl]; rfl) ?_)
        rw [← hst]; exact hr'
    · -- A
      cases hv : xalloc P (rho (s j).ts) o with
      | none => simp [hv] at hst
      | some rw_ =>
        simp only [hv] at hst
        obtain ⟨c, el, f, hA⟩ := xalloc_run hops hv
        by_cases hser : serOf P ops j = true
        · rw [if_pos hser] at hst
          simp only [Option.some.injEq] at hst
          obtain ⟨t1, _⟩ := h.tell r hbase j (Nat.le_of_lt hj) (some j) (fun k _ hk => hr.2.2 k hk)
          have t1' : HRel m (setRows base ((s j).G.getLastD noHeap) (pickRows b (s j).rows (some j) (s j).prev)) w := by
            rw [r.last j (Nat.le_of_lt hj), r.prev j (Nat.le_of_lt hj), ← r.ord.cnt_ready h.closed hr hser, ← lastL_ready r.ord h.closed hr hser]; exact t1
          obtain ⟨g1, g2⟩ := t1'.alloc rw_.cs c el (by have := hA.rel.1; simp only [Array.length_toList] at this; omega) (fun i v v' x y => hA.rel.2 i v v' x (by simpa using y)) hA.one
          unfold Oper.wp
          rw [hA.run w]
          exact hK _ _ _ (h.serial r hbase ho hr hser (by rw [wAj, hser]; simp) (H' := (setRows base ((s j).G.getLastD noHeap) (pickRows b (s j).rows (some j) (s j).prev)).push (.row rw_.cs true)) (by rw [← hst]) (by rw [← hst]; exact hA.val _ _ _ (Plan.put_same _ _ _)) g1 g2)
        · rw [if_neg hser] at hst
          simp only [Option.some.injEq] at hst
          have hserf : serOf P ops j = false := by simpa using hser
          have hrow : rowOf P ops s j = rw_ := by simp [rowOf, ho, hv]
          unfold Oper.wp
          rw [hA.run w]
          refine hK _ _ _ (h.made r hbase ho hr hserf (by rw [wAj, hcl, hw, hserf]; rfl) (by rw [hrow]; exact hA) ?_)
          rw [← hst, hrow]
    · -- S
      cases hv : xser P (rho (s j).ts) (setRows base ((s j).G.getLastD noHeap) (pickRows b (s j).rows (some j) (s j).prev)) o with
      | none => rw [hv] at hst; cases hst
      | some vh =>
        obtain ⟨v, H'⟩ := vh
        simp only [hv, Option.some.injEq] at hst
        have hser : serOf P ops j = true := by simp [serj, serialB, hcl]
        obtain ⟨t1, _⟩ := h.tell r hbase j (Nat.le_of_lt hj) (some j) (fun k _ hk => hr.2.2 k hk)
        have t1' : HRel m (setRows base ((s j).G.getLastD noHeap) (pickRows b (s j).rows (some j) (s j).prev)) w := by
          rw [r.last j (Nat.le_of_lt hj), r.prev j (Nat.le_of_lt hj), ← r.ord.cnt_ready h.closed hr hser, ← lastL_ready r.ord h.closed hr hser]; exact t1
        obtain ⟨nx, w', m', v', hrun, hnx, h1, h2, h3⟩ := xser_run t1' hops hv
        unfold Oper.wp
        rw [hrun]
        have fin : K (a.put o.dst v') w' := hK _ _ m' (h.serial r hbase ho hr hser (by rw [wAj, hcl]; rfl) (H' := H') (by rw [← hst]) (by rw [← hst]; exact h1) h2 h3)
        rcases hnx with rfl | ⟨rfl, rfl⟩
        · exact fin
        · exact fin
    · -- C
      cases hv : xcallee P (rho (s j).ts) o with
      | none => simp [hv] at hst
      | some fa =>
        obtain ⟨f, args⟩ := fa
        simp only [hv] at hst
        cases hcall : call f args (setRows base ((s j).G.getLastD noHeap) (pickRows b (s j).rows (some j) (s j).prev)) with
        | none => rw [hcall] at hst; cases hst
        | some vh =>
          obtain ⟨v, H'⟩ := vh
          simp only [hcall, Option.some.injEq] at hst
          have hser : serOf P ops j = true := by simp [serj, serialB, hcl]
          obtain ⟨t1, _⟩ := h.tell r hbase j (Nat.le_of_lt hj) (some j) (fun k _ hk => hr.2.2 k hk)
          have t1' : HRel m (setRows base ((s j).G.getLastD noHeap) (pickRows b (s j).rows (some j) (s j).prev)) w := by
            rw [r.last j (Nat.le_of_lt hj), r.prev j (Nat.le_of_lt hj), ← r.ord.cnt_ready h.closed hr hser, ← lastL_ready r.ord h.closed hr hser]; exact t1
          obtain ⟨args', ha, hs'⟩ := xcallee_run hops hv
          unfold Oper.wp
          rw [hs' w]
          refine Calls.mono (hc f args _ v H' hcall m w args' t1' ha) ?_
          rintro e w' ⟨v', m', rfl, h1, h2, h3⟩
          exact hK _ _ m' (h.serial r hbase ho hr hser (by rw [wAj, hcl]; rfl) (H' := H') (by rw [← hst]) (by rw [← hst]; exact h1) h2 h3)
  · rw [if_neg hw] at hst ⊢
    have hwf : Region.wanted o (yieldedL ops (s j).ts) = false := by simpa using hw
    have wAf : wA P ops s j = false := by rw [wAj, hwf, Bool.and_false, Bool.false_and]
    by_cases hser : serOf P ops j = true
    · rw [if_pos hser] at hst
      simp only [Option.some.injEq] at hst
      obtain ⟨t1, _⟩ := h.tell r hbase j (Nat.le_of_lt hj) (some j) (fun k _ hk => hr.2.2 k hk)
      have t1' : HRel m (setRows base ((s j).G.getLastD noHeap) (pickRows b (s j).rows (some j) (s j).prev)) w := by
        rw [r.last j (Nat.le_of_lt hj), r.prev j (Nat.le_of_lt hj), ← r.ord.cnt_ready h.closed hr hser, ← lastL_ready r.ord h.closed hr hser]; exact t1
      exact hK _ _ m (h.serial r hbase ho hr hser wAf (v' := undef) (by rw [← hst]) (by rw [← hst]; exact VRel.undef) t1' (Fr.refl _ _ _))
    · rw [if_neg hser] at hst
      simp only [Option.some.injEq] at hst
      exact hK _ _ m (h.quiet r ho hr (by simpa using hser) wAf (v' := undef) (by rw [← hst]; exact VRel.undef))

theorem cnt_full {L : Nat → Bool} : ∀ {n : Nat}, n ≤ cnt L n → ∀ i, i < n → L i = true := by
  intro n
  induction n with
  | zero => intro _ i hi; omega
  | succ n ih =>
    intro h i hi
    rw [cnt_succ] at h
    have hle : cnt L n ≤ n := by unfold cnt; exact Nat.le_trans (List.length_filter_le _ _) (by simp)
    cases hL : L n with
    | false => simp [hL] at h; omega
    | true =>
      by_cases hin : i = n
      · subst hin; exact hL
      · exact ih (by simp [hL] at h; omega) i (by omega)

theorem xdraw_all (hc : CallOK P call) (r : Rn P call ops b base ts0 H0 s) (hbase : H00.next ≤ base) (hok : ops.all operOk = true) (hrd : (s ops.size).rds.all (rdOk P ops b (s ops.size).G) = true) {Q : Exit → Act → World → Prop}
    (hQ : ∀ a' w' m', Inv P ops b base ts0 s m0 H00 w0 d0 (fun i => decide (i < ops.size)) a' w' m' → Q .normal a' w') :
    ∀ (fuel : Nat) (listed : Array Bool) (a : Act) (w : World) (m : Plan), listed.size = ops.size → fuel + cnt (fun i => listed.getD i false) ops.size = ops.size →
      Inv P ops b base ts0 s m0 H00 w0 d0 (fun i => listed.getD i false) a w m → wpAny P .any ops Q fuel listed a w := by
  have ready : ∀ (listed : Array Bool) a w m, listed.size = ops.size → Inv P ops b base ts0 s m0 H00 w0 d0 (fun i => listed.getD i false) a w m → ∀ j, j ∈ Region.ready .any ops listed ↔ (Rdy ops b (fun i => listed.getD i false) j ∧ j < listed.size) := by
    intro listed a w m hsz h j
    rw [mem_ready]
    constructor
    · rintro ⟨h1, o, ho, h2⟩
      have hjl : j < listed.size := by
        rcases Nat.lt_or_ge j listed.size with h' | h'
        · exact h'
        · simp [Array.getElem?_eq_none h'] at h1
      refine ⟨⟨by simpa [hjl] using h1, lt_of_some ho, fun k hk => ?_⟩, hjl⟩
      obtain ⟨e, he, hb, hk'⟩ := (r.ord.iff ho k).1 hk
      have he1 := h2 e he hb
      rcases hk' with rfl | hk'
      · exact he1
      · exact (h.closed e.on he1).2 k hk'
    · rintro ⟨⟨h1, h2, h3⟩, hjl⟩
      have ho : ops[j]? = some ops[j] := Array.getElem?_eq_getElem h2
      refine ⟨by simpa [hjl] using h1, _, ho, fun e he hb => h3 e.on ((r.ord.iff ho _).2 ⟨e, he, hb, .inl rfl⟩)⟩
  have allDone : ∀ (listed : Array Bool) a w m, listed.size = ops.size → Inv P ops b base ts0 s m0 H00 w0 d0 (fun i => listed.getD i false) a w m → (∀ i, i < ops.size → listed.getD i false = true) → Q .normal a w := by
    intro listed a w m hsz h hall
    have : (fun i => listed.getD i false) = fun i => decide (i < ops.size) := by
      funext i
      by_cases hi : i < ops.size
      · rw [hall i hi]; simp [hi]
      · have : listed.getD i false = false := by
          rw [Array.getD_eq_getD_getElem?, Array.getElem?_eq_none (by omega)]; rfl
        rw [this]; simp [hi]
    rw [this] at h
    exact hQ a w m h
  have noneReady : ∀ (listed : Array Bool) a w m, listed.size = ops.size → Inv P ops b base ts0 s m0 H00 w0 d0 (fun i => listed.getD i false) a w m → Region.ready .any ops listed = [] → ∀ i, i < ops.size → listed.getD i false = true := by
    intro listed a w m hsz h hno i
    induction i using Nat.strongRecOn with
    | _ i ih =>
      intro hi
      cases hL : listed.getD i false with
      | true => rfl
      | false =>
        exfalso
        have ho : ops[i]? = some ops[i] := Array.getElem?_eq_getElem hi
        have : i ∈ Region.ready .any ops listed := (ready listed a w m hsz h i).2 ⟨⟨hL, hi, fun k hk => ih k (r.ord.below i _ k ho hk) (by have := r.ord.below i _ k ho hk; omega)⟩, by omega⟩
        rw [hno] at this
        cases this
  intro fuel
  induction fuel with
  | zero =>
    intro listed a w m hsz hcn h
    have hall : ∀ i, i < ops.size → listed.getD i false = true := cnt_full (by omega)
    refine ⟨?_, allDone listed a w m hsz h hall⟩
    refine List.eq_nil_iff_forall_not_mem.2 fun j hj => ?_
    obtain ⟨h1, _⟩ := (ready listed a w m hsz h j).1 hj
    have h2 := h1.1
    have h3 := hall j h1.2.1
    simp only at h2
    rw [h3] at h2
    cases h2
  | succ fuel ih =>
    intro listed a w m hsz hcn h
    refine ⟨fun hno => allDone listed a w m hsz h (noneReady listed a w m hsz h hno), fun j hj => ?_⟩
    obtain ⟨hr, hjl⟩ := (ready listed a w m hsz h j).1 hj
    refine h.step hc r hbase hok hrd hr fun a' w' m' h' => ?_
    rw [← getD_listed hjl] at h'
    refine ih _ a' w' m' (by simpa using hsz) ?_ h'
    have e1 : cnt (fun i => (listed.setIfInBounds j true).getD i false) ops.size = cnt (fun i => listed.getD i false) ops.size + 1 := by
      rw [getD_listed hjl]; exact cnt_add hr.2.1 hr.1
    omega

theorem xdraw_run (hm : P.follows .mixedOrders = true) (hc : CallOK P call) (hok : ops.all operOk = true) (hdr : drawOk P ops = true) {ts ts' : Ts} {H H' : Heap} (h : xdraw P call ops ts H = some (ts', H')) {m : Plan} {a : Act} {w : World}
    (hH : HRel m H w) (ht : TsRel m ts a) {id : Nat} {Q : Exit → Act → World → Prop}
    (hQ : ∀ m' a' w', HRel m' H' w' → TsRel m' ts' a' → a'.defers = a.defers → Fr m H w m' H' w' → Q .normal a' w') : (Code.region id ops true).wp P Q a w := by
  refine wp_region_any hm ?_
  have hord := Ord.of hdr
  unfold xdraw at h
  cases hd : drun P call ops (Region.before ops) H.next ops.size 0 ⟨ts, [reserve H (nRes P ops)], [], none, undef, []⟩ with
  | none => simp [hd] at h
  | some σ =>
    simp only [hd] at h
    split at h
    · rename_i hrd
      simp only [Option.some.injEq, Prod.mk.injEq] at h
      obtain ⟨h1, h2⟩ := h
      obtain ⟨s, r, hs⟩ := Rn.of hord hd
      subst hs
      obtain ⟨g1, g2⟩ := hH.drew.reserve (nRes P ops)
      have g2 := (Fr.drew m H w).trans g2
      have G0 : (s ops.size).G.getD 0 noHeap = reserve H (nRes P ops) := by
        rw [(r.G 0 (Nat.zero_le _)).2 0 (Nat.zero_le _), r.zero]; rfl
      have hnone : (fun i => (Array.replicate ops.size false).getD i false) = fun _ => false := by
        funext i
        simp only [Array.getD_eq_getD_getElem?, Array.getElem?_replicate]
        split <;> rfl
      have c0 : cnt (fun i => serOf P ops i && (Array.replicate ops.size false).getD i false) ops.size = 0 := by
        have : cnt (fun i => serOf P ops i && (Array.replicate ops.size false).getD i false) ops.size = cnt (fun _ => false) ops.size := cnt_congr _ fun i _ => by
          rw [congrFun hnone i]; simp
        rw [this]; simp [cnt]
      have hres : ∀ j, j < ops.size → wA P ops s j = true → nRes P ops = ops.size := fun j hj hw => by
        unfold nRes
        rw [if_pos]
        refine List.any_eq_true.2 ⟨j, List.mem_range.2 hj, ?_⟩
        unfold wA at hw
        unfold isAOf
        cases ho : ops[j]? with
        | none => simp [ho] at hw
        | some o => simp only [ho, Bool.and_eq_true] at hw ⊢; exact ⟨hw.1.1, hw.2⟩
      have init : Inv P ops (Region.before ops) H.next ts s m H w a.defers (fun i => (Array.replicate ops.size false).getD i false) a w.drew m := by
        refine ⟨fun i hi => (by rw [congrFun hnone i] at hi; cases hi), (by rw [c0, G0]; exact g1), ?_, rfl, (by rw [c0, G0]; exact g2), fun j _ hL => (by rw [congrFun hnone j] at hL; cases hL), fun j k hL => (by rw [congrFun hnone j] at hL; cases hL), fun j hj hw _ => ?_, fun j hj hw => ?_⟩
        · have : ∀ n, tsL ops (fun k => (s (k + 1)).v) ts (fun i => (Array.replicate ops.size false).getD i false) n = ts := by
            intro n
            induction n with
            | zero => rfl
            | succ n ih => unfold tsL; rw [congrFun hnone n]; simpa using ih
          rw [this]; exact ht
        · rw [c0, G0]
          refine ⟨hH.dom _ (by omega), ?_⟩
          rw [get_reserve, if_pos (by rw [hres j hj hw]; omega)]
        · rw [c0, G0, next_reserve, hres j hj hw]; omega
      refine xdraw_all hc r (Nat.le_refl _) hok hrd (fun a' w' m' hI => ?_) ops.size (Array.replicate ops.size false) a w.drew m (by simp) (by
        have : cnt (fun i => (Array.replicate ops.size false).getD i false) ops.size = 0 := by rw [hnone]; simp [cnt]
        omega) init
      obtain ⟨t1, t2, _⟩ := hI.tell r (Nat.le_refl _) ops.size (Nat.le_refl _) none (fun k hk _ => by simpa using hk)
      have ec : cnt (fun i => serOf P ops i && decide (i < ops.size)) ops.size = cnt (serOf P ops) ops.size := cnt_congr _ fun i hi => by simp [hi]
      have el : lastL (fun i => serOf P ops i && decide (i < ops.size)) ops.size = lastL (serOf P ops) ops.size := lastL_congr _ fun i hi => by simp [hi]
      rw [ec, el, ← r.last ops.size (Nat.le_refl _), ← r.prev ops.size (Nat.le_refl _), h2] at t1 t2
      refine hQ m' a' w' t1 ?_ hI.defers t2
      rw [← h1, r.ts ops.size (Nat.le_refl _)]
      exact hI.slots
    · cases h
end
end Go.X
