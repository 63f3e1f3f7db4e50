/- One operation, by its class; regions whose order is the text's. -/
import Derived.Test.YtomibdncbioijaaXzCoreH
set_option linter.unusedVariables false
set_option linter.unusedSimpArgs false
namespace Go.X
open Go Go.RowKit

inductive Cls where
  | P | R | A | S | C
  deriving DecidableEq

def clsOf (P : Program) (o : Oper) : Cls :=
  match o.op with
  | .alloc _ | .box _ _ | .buildSlice _ _ _ | .makeSlice _ _ _ => .A
  | .load _ _ => .R
  | .slice t _ (some _) (some _) none => match P.underlying t with
    | some (.slice _) => .R
    | _ => .P
  | .convert s d _ => match P.underlying s, P.underlying d with
    | some (.slice _), some .string => .R
    | some (.slice _), some (.slice _) => .S
    | _, _ => .P
  | .store _ _ _ => .S
  | .call c => match c.callee with
    | .builtin .len | .builtin .min | .builtin .max => .P
    | .builtin _ => .S
    | _ => .C
  | _ => .P

def xP (P : Program) (ρ : Operand → Value) (o : Oper) : Option Value :=
  match o.op with
  | .build t parts => xbuild P t (parts.toList.map fun x => (x.1, ρ x.2))
  | _ => xpure P ρ o

abbrev Ts := List Value
def rho (ts : Ts) : Operand → Value
  | .tmp t => ts.getD t undef
  | .const v => v
  | .global _ => .nilIface
  | .func f => .func (.func f) #[] #[]
def putL (ts : Ts) (dst : Option Tmp) (v : Value) : Ts :=
  match dst with
  | some d => ts.set d v
  | none => ts
def yieldedL (ops : Array Oper) (ts : Ts) (j : Nat) : Option Bool :=
  match ((ops[j]?).bind (·.dst)).bind (ts[·]?) with
  | some (.bool b) => some b
  | _ => none

def operandOk : Operand → Bool
  | .tmp _ => true
  | .const v => plainB 9 v
  | .func _ => true
  | .global _ => false
def operOk (o : Oper) : Bool := o.op.operands.all operandOk

section
variable {P : Program} {m : Plan}

abbrev TsRel (m : Plan) (ts : Ts) (a : Act) : Prop := LRel m ts a.tmps.toList

theorem rho_rel {ts : Ts} {a : Act} (h : TsRel m ts a) {x : Operand} (hx : operandOk x = true) : VRel m (rho ts x) (a.eval x) := by
  cases x with
  | tmp t =>
    have := LRel.getD h VRel.undef t
    simpa [rho, Act.eval] using this
  | const v => exact (plainB_rel 9 v hx).rel m
  | global g => cases hx
  | func f => exact VRel.func_iff.2 ⟨_, _, rfl, LRel.nil m, LRel.nil m⟩
theorem ops_rel {ts : Ts} {a : Act} (h : TsRel m ts a) {o : Oper} (ho : operOk o = true) : OpsRel m (rho ts) a.eval o :=
  fun x hx => rho_rel h (Array.all_eq_true_iff_forall_mem.1 ho x hx)
theorem put_rel {ts : Ts} {a : Act} (h : TsRel m ts a) {v v' : Value} (hv : VRel m v v') (dst : Option Tmp) : TsRel m (putL ts dst v) (a.put dst v') := by
  cases dst with
  | none => exact h
  | some d =>
    simp only [TsRel, putL, Act.put, Array.toList_setIfInBounds]
    exact h.set hv d
theorem TsRel.mono {m' : Plan} {ts : Ts} {a : Act} (h : TsRel m ts a) (hm : Plan.le m m') : TsRel m' ts a := LRel.mono hm h
theorem yielded_rel {ops : Array Oper} {ts : Ts} {a : Act} (h : TsRel m ts a) (j : Nat) : yielded ops a.tmps j = yieldedL ops ts j := by
  unfold yielded yieldedL
  cases hd : (ops[j]?).bind (·.dst) with
  | none => rfl
  | some d =>
    simp only [Option.bind_some]
    cases ht : ts[d]? with
    | none =>
      have : a.tmps[d]? = none := by
        have hl := h.1
        rw [List.getElem?_eq_none_iff] at ht
        rw [Array.getElem?_eq_none_iff]
        simp only [Array.length_toList] at hl
        omega
      rw [this]
    | some v =>
      obtain ⟨v', hv', hr⟩ := h.get ht
      rw [show a.tmps[d]? = some v' by simpa using hv']
      cases hr <;> rfl
theorem wanted_rel {ops : Array Oper} {ts : Ts} {a : Act} (h : TsRel m ts a) (o : Oper) : Region.wanted o (yielded ops a.tmps) = Region.wanted o (yieldedL ops ts) := by
  unfold Region.wanted
  cases o.guard with
  | none => rfl
  | some g => obtain ⟨j, b⟩ := g; simp only [yielded_rel h]
theorem put_defers (a : Act) (dst : Option Tmp) (v : Value) : (a.put dst v).defers = a.defers := by cases dst <;> rfl

/-- What a call comes to. -/
def CallR (P : Program) (m : Plan) (H : Heap) (w : World) (f : FuncId) (args' : Array Value) (v : Value) (H' : Heap) : Prop :=
  Calls P f args' w fun e w' => ∃ v' m', e = .returned v' ∧ VRel m' v v' ∧ HRel m' H' w' ∧ Fr m H w m' H' w'
def CallOK (P : Program) (call : FuncId → List Value → Heap → Option (Value × Heap)) : Prop :=
  ∀ f args H v H', call f args H = some (v, H') → ∀ m w args', HRel m H w → LRel m args args' → CallR P m H w f args'.toArray v H'

/-- One operation, run. -/
def StepW (P : Program) (m : Plan) (H : Heap) (a : Act) (w : World) (o : Oper) (v : Value) (H' : Heap) : Prop :=
  ∀ (K : Act → World → Prop) (Q : Exit → Act → World → Prop), (∀ m' v' w', VRel m' v v' → HRel m' H' w' → Fr m H w m' H' w' → K (a.put o.dst v') w') → o.wp P a w K Q

theorem xP_run {ρ ρ' : Operand → Value} {o : Oper} {v : Value} (hρ : OpsRel m ρ ρ' o) (h : xP P ρ o = some v) : Pures P m ρ' o v := by
  obtain ⟨dst, op, ty, pos, after, guard⟩ := o
  cases op with
  | build t parts =>
    obtain ⟨v', hr, hs⟩ := xbuild_run (fun x hx => hρ x (by simpa [Op.operands] using hx)) h
    exact Pures.of (s := Instr.build t (parts.map fun (i, x) => (i, ρ' x))) rfl hr hs
  | _ => exact xpure_run hρ h

theorem step_P {H : Heap} {w : World} {ts : Ts} {a : Act} {o : Oper} {v : Value} (hH : HRel m H w) (ht : OpsRel m (rho ts) a.eval o) (h : xP P (rho ts) o = some v) : StepW P m H a w o v H := by
  intro K Q hK
  obtain ⟨v', hr, hs⟩ := xP_run ht h
  unfold Oper.wp
  rw [hs w]
  exact hK m v' w hr hH (Fr.refl _ _ _)
theorem step_R {H : Heap} {w : World} {ts : Ts} {a : Act} {o : Oper} {v : Value} (hH : HRel m H w) (ht : OpsRel m (rho ts) a.eval o) (h : xread P (rho ts) H o = some v) : StepW P m H a w o v H := by
  intro K Q hK
  obtain ⟨v', hr, hs⟩ := xread_run hH ht h
  unfold Oper.wp
  rw [hs]
  exact hK m v' w hr hH (Fr.refl _ _ _)
theorem step_A {H : Heap} {w : World} {ts : Ts} {a : Act} {o : Oper} {r : NewRow} (hH : HRel m H w) (ht : OpsRel m (rho ts) a.eval o) (h : xalloc P (rho ts) o = some r) :
    StepW P m H a w o (r.val H.next) (H.push (.row r.cs true)) := by
  intro K Q hK
  obtain ⟨c, el, f, hA⟩ := xalloc_run ht h
  unfold Oper.wp
  rw [hA.run w]
  obtain ⟨g1, g2⟩ := hH.alloc r.cs c el (by have := hA.rel.1; simp only [Array.length_toList] at this; omega) (fun i v v' x y => hA.rel.2 i v v' x (by simpa using y)) hA.one
  exact hK _ _ _ (hA.val _ _ _ (Plan.put_same _ _ _)) g1 g2
theorem step_S {H H' : Heap} {w : World} {ts : Ts} {a : Act} {o : Oper} {v : Value} (hH : HRel m H w) (ht : OpsRel m (rho ts) a.eval o) (h : xser P (rho ts) H o = some (v, H')) : StepW P m H a w o v H' := by
  intro K Q hK
  obtain ⟨nx, w', m', v', hrun, hnx, h1, h2, h3⟩ := xser_run hH ht h
  unfold Oper.wp
  rw [hrun]
  rcases hnx with rfl | ⟨rfl, rfl⟩
  · exact hK m' v' w' h1 h2 h3
  · exact hK m' undef w' h1 h2 h3
theorem step_C {call : FuncId → List Value → Heap → Option (Value × Heap)} (hc : CallOK P call) {H H' : Heap} {w : World} {ts : Ts} {a : Act} {o : Oper} {f : FuncId} {args : List Value} {v : Value}
    (hH : HRel m H w) (ht : OpsRel m (rho ts) a.eval o) (h : xcallee P (rho ts) o = some (f, args)) (h2 : call f args H = some (v, H')) : StepW P m H a w o v H' := by
  intro K Q hK
  obtain ⟨args', hr, hs⟩ := xcallee_run ht h
  unfold Oper.wp
  rw [hs w]
  refine Calls.mono (hc f args H v H' h2 m w args' hH hr) ?_
  rintro e w' ⟨v', m', rfl, h1, h2, h3⟩
  exact hK m' v' w' h1 h2 h3

def xone (P : Program) (call : FuncId → List Value → Heap → Option (Value × Heap)) (ts : Ts) (H : Heap) (o : Oper) : Option (Value × Heap) :=
  match clsOf P o with
  | .P => match xP P (rho ts) o with
    | some v => some (v, H)
    | none => none
  | .R => match xread P (rho ts) H o with
    | some v => some (v, H)
    | none => none
  | .A => match xalloc P (rho ts) o with
    | some r => some (r.val H.next, H.push (.row r.cs true))
    | none => none
  | .S => xser P (rho ts) H o
  | .C => match xcallee P (rho ts) o with
    | some (f, args) => call f args H
    | none => none

theorem xone_run {call : FuncId → List Value → Heap → Option (Value × Heap)} (hc : CallOK P call) {H H' : Heap} {w : World} {ts : Ts} {a : Act} {o : Oper} {v : Value}
    (hH : HRel m H w) (ht : OpsRel m (rho ts) a.eval o) (h : xone P call ts H o = some (v, H')) : StepW P m H a w o v H' := by
  unfold xone at h
  cases hcl : clsOf P o <;> simp only [hcl] at h
  · cases hv : xP P (rho ts) o with
    | none => simp [hv] at h
    | some v0 => simp only [hv, Option.some.injEq, Prod.mk.injEq] at h; obtain ⟨rfl, rfl⟩ := h; exact step_P hH ht hv
  · cases hv : xread P (rho ts) H o with
    | none => simp [hv] at h
    | some v0 => simp only [hv, Option.some.injEq, Prod.mk.injEq] at h; obtain ⟨rfl, rfl⟩ := h; exact step_R hH ht hv
  · cases hv : xalloc P (rho ts) o with
    | none => simp [hv] at h
    | some r => simp only [hv, Option.some.injEq, Prod.mk.injEq] at h; obtain ⟨rfl, rfl⟩ := h; exact step_A hH ht hv
  · exact step_S hH ht h
  · cases hv : xcallee P (rho ts) o with
    | none => simp [hv] at h
    | some fa => obtain ⟨f, args⟩ := fa; simp only [hv] at h; exact step_C hc hH ht hv h

/-! ### a region in the text's order -/
def xlist (P : Program) (call : FuncId → List Value → Heap → Option (Value × Heap)) (ops : Array Oper) : List Nat → Ts → Heap → Option (Ts × Heap)
  | [], ts, H => some (ts, H)
  | i :: l, ts, H => match ops[i]? with
    | none => xlist P call ops l ts H
    | some o => if Region.wanted o (yieldedL ops ts) then
        (match xone P call ts H o with
        | some (v, H') => xlist P call ops l (putL ts o.dst v) H'
        | none => none)
      else xlist P call ops l (putL ts o.dst undef) H

theorem xlist_run {call : FuncId → List Value → Heap → Option (Value × Heap)} (hc : CallOK P call) {ops : Array Oper} (hok : ops.all operOk = true) {Q : Exit → Act → World → Prop} :
    ∀ (l : List Nat) (m : Plan) (ts : Ts) (H : Heap) (ts' : Ts) (H' : Heap) (a : Act) (w : World), xlist P call ops l ts H = some (ts', H') → HRel m H w → TsRel m ts a →
    (∀ m' a' w', HRel m' H' w' → TsRel m' ts' a' → a'.defers = a.defers → Fr m H w m' H' w' → Q .normal a' w') → wpOps P ops Q l a w := by
  intro l
  induction l with
  | nil =>
    intro m ts H ts' H' a w h hH ht hQ
    simp only [xlist, Option.some.injEq, Prod.mk.injEq] at h
    obtain ⟨rfl, rfl⟩ := h
    exact hQ m a w hH ht rfl (Fr.refl _ _ _)
  | cons i l ih =>
    intro m ts H ts' H' a w h hH ht hQ
    rw [wpOps_cons]
    unfold wpOp
    simp only [xlist] at h
    cases ho : ops[i]? with
    | none => simp only [ho] at h ⊢; exact ih m ts H ts' H' a w h hH ht hQ
    | some o =>
      simp only [ho] at h ⊢
      have hoo : operOk o = true := Array.all_eq_true_iff_forall_mem.1 hok o (Array.mem_of_getElem? ho)
      rw [wanted_rel ht]
      split
      · rename_i hw
        rw [if_pos hw] at h
        cases hx : xone P call ts H o with
        | none => simp [hx] at h
        | some r =>
          obtain ⟨v, H1⟩ := r
          simp only [hx] at h
          refine .inl (xone_run hc hH (ops_rel ht hoo) hx _ _ fun m' v' w' h1 h2 h3 => ?_)
          exact ih m' (putL ts o.dst v) H1 ts' H' (a.put o.dst v') w' h h2 (put_rel (ht.mono h3.le) h1 o.dst) fun m2 a2 w2 q1 q2 q3 q4 =>
            hQ m2 a2 w2 q1 q2 (q3.trans (put_defers _ _ _)) (h3.trans q4)
      · rename_i hw
        rw [if_neg hw] at h
        exact ih m (putL ts o.dst undef) H ts' H' (a.put o.dst undef) w h hH (put_rel ht VRel.undef o.dst) fun m2 a2 w2 q1 q2 q3 q4 =>
            hQ m2 a2 w2 q1 q2 (q3.trans (put_defers _ _ _)) q4
end
end Go.X
