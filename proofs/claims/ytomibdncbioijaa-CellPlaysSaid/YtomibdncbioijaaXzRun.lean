/- Abstract runs without a count of steps; the stack of what is left; what a function comes to. -/
import Derived.Test.YtomibdncbioijaaXzCoreP
set_option linter.unusedVariables false
set_option linter.unusedSimpArgs false
namespace Go.X
open Go Go.RowKit

abbrev CallF := FuncId → List Value → Heap → Option (Value × Heap)
def CallF.le (c d : CallF) : Prop := ∀ f args H r, c f args H = some r → d f args H = some r

section
variable {P : Program} {good : Nat → Bool}

theorem xone_mono {c d : CallF} (h : c.le d) {ts : Ts} {H : Heap} {o : Oper} {r : Value × Heap} (hr : xone P c ts H o = some r) : xone P d ts H o = some r := by
  unfold xone at hr ⊢
  cases hc : clsOf P o <;> simp only [hc] at hr ⊢ <;> try exact hr
  cases hv : xcallee P (rho ts) o with
  | none => rw [hv] at hr; cases hr
  | some fa => obtain ⟨f, args⟩ := fa; rw [hv] at hr; exact h _ _ _ _ hr
theorem xlist_mono {c d : CallF} (h : c.le d) {ops : Array Oper} : ∀ (l : List Nat) (ts : Ts) (H : Heap) (r : Ts × Heap), xlist P c ops l ts H = some r → xlist P d ops l ts H = some r := by
  intro l
  induction l with
  | nil => intro ts H r hr; exact hr
  | cons i l ih =>
    intro ts H r hr
    simp only [xlist] at hr ⊢
    cases ho : ops[i]? with
    | none => simp only [ho] at hr ⊢; exact ih ts H r hr
    | some o =>
      simp only [ho] at hr ⊢
      split at hr
      · rename_i hw
        rw [if_pos hw]
        cases hx : xone P c ts H o with
        | none => rw [hx] at hr; cases hr
        | some v => obtain ⟨v, H1⟩ := v; rw [hx] at hr; rw [xone_mono h hx]; exact ih _ _ _ hr
      · rename_i hw
        rw [if_neg hw]; exact ih _ _ _ hr
theorem dstep_mono {c d : CallF} (h : c.le d) {ops : Array Oper} {b : Array Nat} {base i : Nat} {σ σ' : DS} (hr : dstep P c ops b base i σ = some σ') : dstep P d ops b base i σ = some σ' := by
  unfold dstep at hr ⊢
  cases ho : ops[i]? with
  | none => simp only [ho] at hr; cases hr
  | some o =>
    simp only [ho] at hr ⊢
    split at hr
    · rename_i hw
      rw [if_pos hw]
      cases hc : clsOf P o <;> simp only [hc] at hr ⊢ <;> try exact hr
      cases hv : xcallee P (rho σ.ts) o with
      | none => rw [hv] at hr; cases hr
      | some fa =>
        obtain ⟨f, args⟩ := fa
        rw [hv] at hr
        simp only at hr ⊢
        cases hcall : c f args (setRows base (σ.G.getLastD noHeap) (pickRows b σ.rows (some i) σ.prev)) with
        | none => rw [hcall] at hr; cases hr
        | some r => rw [hcall] at hr; rw [h _ _ _ _ hcall]; exact hr
    · rename_i hw
      rw [if_neg hw]; exact hr
theorem drun_mono {c d : CallF} (h : c.le d) {ops : Array Oper} {b : Array Nat} {base : Nat} : ∀ (k i : Nat) (σ σ' : DS), drun P c ops b base k i σ = some σ' → drun P d ops b base k i σ = some σ' := by
  intro k
  induction k with
  | zero => intro i σ σ' hr; exact hr
  | succ k ih =>
    intro i σ σ' hr
    simp only [drun] at hr ⊢
    cases hd : dstep P c ops b base i σ with
    | none => rw [hd] at hr; cases hr
    | some σ1 => rw [hd] at hr; rw [dstep_mono h hd]; exact ih _ _ _ hr
theorem xdraw_mono {c d : CallF} (h : c.le d) {ops : Array Oper} {ts : Ts} {H : Heap} {r : Ts × Heap} (hr : xdraw P c ops ts H = some r) : xdraw P d ops ts H = some r := by
  unfold xdraw at hr ⊢
  cases hd : drun P c ops (Region.before ops) H.next ops.size 0 ⟨ts, [reserve H (nRes P ops)], [], none, undef, []⟩ with
  | none => rw [hd] at hr; cases hr
  | some σ => rw [hd] at hr; rw [drun_mono h _ _ _ _ hd]; exact hr

theorem xmono : ∀ (k : Nat), (∀ (c : Code) (ts : Ts) (H : Heap) (r : XE × Ts × Heap), xcode P good k c ts H = some r → xcode P good (k + 1) c ts H = some r) ∧ CallF.le (xcall P good k) (xcall P good (k + 1)) := by
  intro k
  induction k with
  | zero => exact ⟨fun c ts H r h => by simp [xcode] at h, fun f args H r h => by simp [xcall] at h⟩
  | succ k ih =>
    obtain ⟨ih1, ih2⟩ := ih
    constructor
    · intro c ts H r h
      cases c with
      | region id ops draw =>
        rw [xcode] at h ⊢
        cases draw with
        | false =>
          simp only [Bool.false_eq_true, if_false] at h ⊢
          cases hx : xlist P (xcall P good k) ops (List.range ops.size) ts H with
          | none => rw [hx] at h; cases h
          | some x => rw [hx] at h; rw [xlist_mono ih2 _ _ _ _ hx]; exact h
        | true =>
          simp only [if_true] at h ⊢
          cases hx : xdraw P (xcall P good k) ops ts H with
          | none => rw [hx] at h; cases h
          | some x => rw [hx] at h; rw [xdraw_mono ih2 hx]; exact h
      | seq a b =>
        rw [xcode] at h ⊢
        cases hx : xcode P good k a ts H with
        | none => rw [hx] at h; cases h
        | some x =>
          rw [hx] at h; rw [ih1 _ _ _ _ hx]
          obtain ⟨e, ts1, H1⟩ := x
          cases e with
          | normal => exact ih1 _ _ _ _ h
          | exit id => exact h
          | ret => exact h
      | cond cc a b =>
        rw [xcode] at h ⊢
        cases hv : rho ts cc <;> simp only [hv] at h ⊢ <;> try (cases h; done)
        exact ih1 _ _ _ _ h
      | block id c =>
        rw [xcode] at h ⊢
        cases hx : xcode P good k c ts H with
        | none => rw [hx] at h; cases h
        | some x => rw [hx] at h; rw [ih1 _ _ _ _ hx]; exact h
      | loop c =>
        rw [xcode] at h ⊢
        cases hx : xcode P good k c ts H with
        | none => rw [hx] at h; cases h
        | some x =>
          rw [hx] at h; rw [ih1 _ _ _ _ hx]
          obtain ⟨e, ts1, H1⟩ := x
          cases e with
          | normal => exact ih1 _ _ _ _ h
          | exit id => exact h
          | ret => exact h
      | _ => first | (simp [xcode] at h; done) | (rw [xcode] at h ⊢; exact h)
    · intro f args H r h
      rw [xcall] at h ⊢
      split at h
      · rename_i hg
        rw [if_pos hg]
        cases hf : P.funcs[f]? with
        | none => simp only [hf] at h; cases h
        | some fn =>
          simp only [hf] at h ⊢
          cases hb : fn.body with
          | none => simp only [hb] at h; cases h
          | some c =>
            simp only [hb] at h ⊢
            cases hx : xcode P good k c (initTs fn args) H with
            | none => rw [hx] at h; cases h
            | some x => rw [hx] at h; rw [ih1 _ _ _ _ hx]; exact h
      · rename_i hg
        rw [if_neg hg]; exact h
theorem xcode_le {k l : Nat} (hkl : k ≤ l) {c : Code} {ts : Ts} {H : Heap} {r : XE × Ts × Heap} (h : xcode P good k c ts H = some r) : xcode P good l c ts H = some r := by
  induction l with
  | zero => have : k = 0 := by omega
            subst this; exact h
  | succ l ih =>
    by_cases e : k = l + 1
    · subst e; exact h
    · exact (xmono l).1 _ _ _ _ (ih (by omega))
theorem xcall_le {k l : Nat} (hkl : k ≤ l) : CallF.le (xcall P good k) (xcall P good l) := by
  intro f args H r h
  induction l with
  | zero => have : k = 0 := by omega
            subst this; exact h
  | succ l ih =>
    by_cases e : k = l + 1
    · subst e; exact h
    · exact (xmono l).2 _ _ _ _ (ih (by omega))

/-! ### what a call comes to, however many steps it takes -/
open Classical in
noncomputable def xC (P : Program) (good : Nat → Bool) : CallF := fun f args H => if h : ∃ k r, xcall P good k f args H = some r then some h.choose_spec.choose else none
theorem xC_of {k : Nat} {f : FuncId} {args : List Value} {H : Heap} {r : Value × Heap} (h : xcall P good k f args H = some r) : xC P good f args H = some r := by
  have hex : ∃ k r, xcall P good k f args H = some r := ⟨k, r, h⟩
  unfold xC
  rw [dif_pos hex]
  have h2 := hex.choose_spec.choose_spec
  have a1 := xcall_le (Nat.le_max_left k hex.choose) _ _ _ _ h
  have a2 := xcall_le (Nat.le_max_right k hex.choose) _ _ _ _ h2
  rw [a1] at a2
  exact a2.symm
theorem xC_some {f : FuncId} {args : List Value} {H : Heap} {r : Value × Heap} (h : xC P good f args H = some r) : ∃ k, xcall P good k f args H = some r := by
  unfold xC at h
  split at h
  · rename_i hex
    cases h
    exact ⟨_, hex.choose_spec.choose_spec⟩
  · cases h
theorem xcall_le_xC (k : Nat) : CallF.le (xcall P good k) (xC P good) := fun f args H r h => xC_of h

theorem xone_lim {ts : Ts} {H : Heap} {o : Oper} {r : Value × Heap} (h : xone P (xC P good) ts H o = some r) : ∃ k, xone P (xcall P good k) ts H o = some r := by
  unfold xone at h
  cases hc : clsOf P o <;> simp only [hc] at h
  case C =>
    cases hv : xcallee P (rho ts) o with
    | none => rw [hv] at h; cases h
    | some fa =>
      obtain ⟨f, args⟩ := fa
      rw [hv] at h
      obtain ⟨k, hk⟩ := xC_some h
      exact ⟨k, by unfold xone; rw [hc, hv]; exact hk⟩
  all_goals exact ⟨0, by unfold xone; simp only [hc]; exact h⟩
theorem xlist_lim {ops : Array Oper} : ∀ (l : List Nat) (ts : Ts) (H : Heap) (r : Ts × Heap), xlist P (xC P good) ops l ts H = some r → ∃ k, xlist P (xcall P good k) ops l ts H = some r := by
  intro l
  induction l with
  | nil => intro ts H r h; exact ⟨0, h⟩
  | cons i l ih =>
    intro ts H r h
    simp only [xlist] at h ⊢
    cases ho : ops[i]? with
    | none => simp only [ho] at h ⊢; exact ih ts H r h
    | some o =>
      simp only [ho] at h ⊢
      split at h
      · rename_i hw
        cases hx : xone P (xC P good) ts H o with
        | none => rw [hx] at h; cases h
        | some v =>
          obtain ⟨v, H1⟩ := v
          rw [hx] at h
          obtain ⟨k1, h1⟩ := xone_lim hx
          obtain ⟨k2, h2⟩ := ih _ _ _ h
          refine ⟨max k1 k2, ?_⟩
          rw [if_pos hw, xone_mono (xcall_le (Nat.le_max_left k1 k2)) h1]
          exact xlist_mono (xcall_le (Nat.le_max_right k1 k2)) _ _ _ _ h2
      · rename_i hw
        obtain ⟨k, hk⟩ := ih _ _ _ h
        exact ⟨k, by rw [if_neg hw]; exact hk⟩
theorem dstep_lim {ops : Array Oper} {b : Array Nat} {base i : Nat} {σ σ' : DS} (h : dstep P (xC P good) ops b base i σ = some σ') : ∃ k, dstep P (xcall P good k) ops b base i σ = some σ' := by
  unfold dstep at h
  cases ho : ops[i]? with
  | none => simp only [ho] at h; cases h
  | some o =>
    simp only [ho] at h
    split at h
    · rename_i hw
      cases hc : clsOf P o <;> simp only [hc] at h
      case C =>
        cases hv : xcallee P (rho σ.ts) o with
        | none => rw [hv] at h; cases h
        | some fa =>
          obtain ⟨f, args⟩ := fa
          rw [hv] at h
          simp only at h
          cases hcall : xC P good f args (setRows base (σ.G.getLastD noHeap) (pickRows b σ.rows (some i) σ.prev)) with
          | none => rw [hcall] at h; cases h
          | some r =>
            rw [hcall] at h
            obtain ⟨k, hk⟩ := xC_some hcall
            exact ⟨k, by unfold dstep; simp only [ho]; rw [if_pos hw, hc]; simp only [hv, hk]; exact h⟩
      all_goals exact ⟨0, by unfold dstep; simp only [ho]; rw [if_pos hw, hc]; exact h⟩
    · rename_i hw
      exact ⟨0, by unfold dstep; simp only [ho]; rw [if_neg hw]; exact h⟩
theorem drun_lim {ops : Array Oper} {b : Array Nat} {base : Nat} : ∀ (n i : Nat) (σ σ' : DS), drun P (xC P good) ops b base n i σ = some σ' → ∃ k, drun P (xcall P good k) ops b base n i σ = some σ' := by
  intro n
  induction n with
  | zero => intro i σ σ' h; exact ⟨0, h⟩
  | succ n ih =>
    intro i σ σ' h
    simp only [drun] at h ⊢
    cases hd : dstep P (xC P good) ops b base i σ with
    | none => rw [hd] at h; cases h
    | some σ1 =>
      rw [hd] at h
      obtain ⟨k1, h1⟩ := dstep_lim hd
      obtain ⟨k2, h2⟩ := ih _ _ _ h
      exact ⟨max k1 k2, by rw [dstep_mono (xcall_le (Nat.le_max_left k1 k2)) h1]; exact drun_mono (xcall_le (Nat.le_max_right k1 k2)) _ _ _ _ h2⟩
theorem xdraw_lim {ops : Array Oper} {ts : Ts} {H : Heap} {r : Ts × Heap} (h : xdraw P (xC P good) ops ts H = some r) : ∃ k, xdraw P (xcall P good k) ops ts H = some r := by
  unfold xdraw at h
  cases hd : drun P (xC P good) ops (Region.before ops) H.next ops.size 0 ⟨ts, [reserve H (nRes P ops)], [], none, undef, []⟩ with
  | none => rw [hd] at h; cases h
  | some σ => obtain ⟨k, hk⟩ := drun_lim _ _ _ _ hd; exact ⟨k, by unfold xdraw; rw [hk]; rw [hd] at h; exact h⟩

/-! ### the stack of what is left -/
inductive It where
  | code (c : Code)
  | blk (id : Nat)
  | lp (c : Code)
  | reg (ops : Array Oper) (l : List Nat)

def Fin (P : Program) (fn : Func) (ts : Ts) (H : Heap) (r : Value × Heap) : Prop := xresults P fn ts H = some r.1 ∧ r.2 = H

def After (P : Program) (good : Nat → Bool) (fn : Func) : List It → XE → Ts → Heap → Value × Heap → Prop
  | [], .exit _, _, _, _ => False
  | [], _, ts, H, r => Fin P fn ts H r
  | .code c :: s, .normal, ts, H, r => ∃ k e ts' H', xcode P good k c ts H = some (e, ts', H') ∧ After P good fn s e ts' H' r
  | .lp c :: s, .normal, ts, H, r => ∃ k e ts' H', xcode P good k (.loop c) ts H = some (e, ts', H') ∧ After P good fn s e ts' H' r
  | .reg ops l :: s, .normal, ts, H, r => ∃ ts' H', xlist P (xC P good) ops l ts H = some (ts', H') ∧ After P good fn s .normal ts' H' r
  | .blk id :: s, .exit i, ts, H, r => if i = id then After P good fn s .normal ts H r else After P good fn s (.exit i) ts H r
  | _ :: s, e, ts, H, r => After P good fn s e ts H r

/-- From here on the function comes to that. -/
def KR (P : Program) (good : Nat → Bool) (fn : Func) (s : List It) (ts : Ts) (H : Heap) (r : Value × Heap) : Prop := After P good fn s .normal ts H r

variable {fn : Func} {s : List It} {ts : Ts} {H : Heap} {r : Value × Heap}

theorem KR.call {f : FuncId} {args : List Value} {c : Code} (hg : good f = true) (hf : P.funcs[f]? = some fn) (hb : fn.body = some c) (h : KR P good fn [.code c] (initTs fn args) H r) : xC P good f args H = some r := by
  obtain ⟨k, e, ts', H', hx, ha⟩ := h
  obtain ⟨v, Hr⟩ := r
  cases e with
  | exit id => exact ha.elim
  | normal =>
    obtain ⟨h1, h2⟩ := ha
    simp only at h1 h2
    subst h2
    refine xC_of (k := k + 1) ?_
    rw [xcall, if_pos hg]
    simp only [hf, hb, hx, h1, Option.map_some]
  | ret =>
    obtain ⟨h1, h2⟩ := ha
    simp only at h1 h2
    subst h2
    refine xC_of (k := k + 1) ?_
    rw [xcall, if_pos hg]
    simp only [hf, hb, hx, h1, Option.map_some]

theorem KR.nil (h : Fin P fn ts H r) : KR P good fn [] ts H r := h
theorem after_ret : ∀ (s : List It), Fin P fn ts H r → After P good fn s .ret ts H r := by
  intro s
  induction s with
  | nil => intro h; exact h
  | cons x s ih => intro h; cases x <;> exact ih h
theorem KR.ret (h : Fin P fn ts H r) : KR P good fn (.code .ret :: s) ts H r := ⟨1, .ret, ts, H, rfl, after_ret s h⟩
theorem KR.skip (h : KR P good fn s ts H r) : KR P good fn (.code .skip :: s) ts H r := ⟨1, .normal, ts, H, rfl, h⟩
theorem KR.blk {id : Nat} (h : KR P good fn s ts H r) : KR P good fn (.blk id :: s) ts H r := h
theorem KR.seq {a b : Code} (h : KR P good fn (.code a :: .code b :: s) ts H r) : KR P good fn (.code (.seq a b) :: s) ts H r := by
  obtain ⟨k, e, ts', H', hx, ha⟩ := h
  cases e with
  | normal =>
    obtain ⟨k2, e2, ts2, H2, hx2, ha2⟩ := ha
    refine ⟨max k k2 + 1, e2, ts2, H2, ?_, ha2⟩
    rw [xcode]
    simp only [xcode_le (Nat.le_max_left k k2) hx]
    exact xcode_le (Nat.le_max_right k k2) hx2
  | exit id => exact ⟨k + 1, .exit id, ts', H', by rw [xcode]; simp only [hx], ha⟩
  | ret => exact ⟨k + 1, .ret, ts', H', by rw [xcode]; simp only [hx], ha⟩
theorem KR.cond {c : Operand} {a b : Code} {t : Bool} (hc : rho ts c = .bool t) (h : KR P good fn (.code (if t then a else b) :: s) ts H r) : KR P good fn (.code (.cond c a b) :: s) ts H r := by
  obtain ⟨k, e, ts', H', hx, ha⟩ := h
  exact ⟨k + 1, e, ts', H', by rw [xcode]; simp only [hc]; exact hx, ha⟩
theorem KR.block {id : Nat} {c : Code} (h : KR P good fn (.code c :: .blk id :: s) ts H r) : KR P good fn (.code (.block id c) :: s) ts H r := by
  obtain ⟨k, e, ts', H', hx, ha⟩ := h
  cases e with
  | normal => exact ⟨k + 1, .normal, ts', H', by rw [xcode]; simp only [hx], ha⟩
  | ret => exact ⟨k + 1, .ret, ts', H', by rw [xcode]; simp only [hx], ha⟩
  | exit i =>
    by_cases hi : i = id
    · refine ⟨k + 1, .normal, ts', H', by rw [xcode]; simp only [hx, hi, if_true], ?_⟩
      have ha' : (if i = id then After P good fn s .normal ts' H' r else After P good fn s (.exit i) ts' H' r) := ha
      rwa [if_pos hi] at ha'
    · refine ⟨k + 1, .exit i, ts', H', by rw [xcode]; simp only [hx, hi, if_false], ?_⟩
      have ha' : (if i = id then After P good fn s .normal ts' H' r else After P good fn s (.exit i) ts' H' r) := ha
      rwa [if_neg hi] at ha'
theorem KR.lp {c : Code} (h : KR P good fn (.code c :: .lp c :: s) ts H r) : KR P good fn (.lp c :: s) ts H r := by
  obtain ⟨k, e, ts', H', hx, ha⟩ := h
  cases e with
  | normal =>
    obtain ⟨k2, e2, ts2, H2, hx2, ha2⟩ := ha
    refine ⟨max k k2 + 1, e2, ts2, H2, ?_, ha2⟩
    rw [xcode]
    simp only [xcode_le (Nat.le_max_left k k2) hx]
    exact xcode_le (Nat.le_max_right k k2) hx2
  | exit id => exact ⟨k + 1, .exit id, ts', H', by rw [xcode]; simp only [hx], ha⟩
  | ret => exact ⟨k + 1, .ret, ts', H', by rw [xcode]; simp only [hx], ha⟩
theorem KR.loop {c : Code} (h : KR P good fn (.lp c :: s) ts H r) : KR P good fn (.code (.loop c) :: s) ts H r := h
def unwindTo (id : Nat) : List It → Option (List It)
  | [] => none
  | .blk i :: s => if id = i then some s else unwindTo id s
  | _ :: s => unwindTo id s
theorem after_exit {id : Nat} : ∀ (s s' : List It), unwindTo id s = some s' → KR P good fn s' ts H r → After P good fn s (.exit id) ts H r := by
  intro s
  induction s with
  | nil => intro s' h; cases h
  | cons x s ih =>
    intro s' h hk
    cases x with
    | blk i =>
      show (if id = i then After P good fn s .normal ts H r else After P good fn s (.exit id) ts H r)
      unfold unwindTo at h
      split at h
      · rename_i hi; cases h; rw [if_pos hi]; exact hk
      · rename_i hi; rw [if_neg hi]; exact ih s' h hk
    | _ => exact ih s' h hk
theorem KR.exit {id : Nat} {s' : List It} (hs : unwindTo id s = some s') (h : KR P good fn s' ts H r) : KR P good fn (.code (.exit id) :: s) ts H r :=
  ⟨1, .exit id, ts, H, rfl, after_exit s s' hs h⟩
theorem KR.region {id : Nat} {ops : Array Oper} (h : KR P good fn (.reg ops (List.range ops.size) :: s) ts H r) : KR P good fn (.code (.region id ops false) :: s) ts H r := by
  obtain ⟨ts', H', hx, ha⟩ := h
  obtain ⟨k, hk⟩ := xlist_lim _ _ _ _ hx
  exact ⟨k + 1, .normal, ts', H', by rw [xcode]; simp only [Bool.false_eq_true, if_false, hk], ha⟩
theorem KR.draw {id : Nat} {ops : Array Oper} {ts' : Ts} {H' : Heap} (hx : xdraw P (xC P good) ops ts H = some (ts', H')) (h : KR P good fn s ts' H' r) : KR P good fn (.code (.region id ops true) :: s) ts H r := by
  obtain ⟨k, hk⟩ := xdraw_lim hx
  exact ⟨k + 1, .normal, ts', H', by rw [xcode]; simp only [if_true, hk], h⟩
theorem KR.regNil {ops : Array Oper} (h : KR P good fn s ts H r) : KR P good fn (.reg ops [] :: s) ts H r := ⟨ts, H, rfl, h⟩
theorem KR.op {ops : Array Oper} {i : Nat} {l : List Nat} {o : Oper} {v : Value} {H' : Heap} (ho : ops[i]? = some o) (hw : Region.wanted o (yieldedL ops ts) = true) (hx : xone P (xC P good) ts H o = some (v, H'))
    (h : KR P good fn (.reg ops l :: s) (putL ts o.dst v) H' r) : KR P good fn (.reg ops (i :: l) :: s) ts H r := by
  obtain ⟨ts', H2, h1, h2⟩ := h
  refine ⟨ts', H2, ?_, h2⟩
  simp only [xlist, ho, if_pos hw, hx]
  exact h1
theorem KR.opNot {ops : Array Oper} {i : Nat} {l : List Nat} {o : Oper} (ho : ops[i]? = some o) (hw : Region.wanted o (yieldedL ops ts) = false)
    (h : KR P good fn (.reg ops l :: s) (putL ts o.dst undef) H r) : KR P good fn (.reg ops (i :: l) :: s) ts H r := by
  obtain ⟨ts', H2, h1, h2⟩ := h
  refine ⟨ts', H2, ?_, h2⟩
  simp only [xlist, ho, hw, Bool.false_eq_true, if_false]
  exact h1

/-! ### many steps at once, as far as nothing is open -/
def noCall : CallF := fun _ _ _ => none
def mstep (P : Program) : List It → Ts → Heap → Option (List It × Ts × Heap)
  | [], _, _ => none
  | .blk _ :: s, ts, H => some (s, ts, H)
  | .lp c :: s, ts, H => some (.code c :: .lp c :: s, ts, H)
  | .reg ops l :: s, ts, H => match l with
    | [] => some (s, ts, H)
    | i :: l => match ops[i]? with
      | none => none
      | some o => if Region.wanted o (yieldedL ops ts) then
          (match xone P noCall ts H o with
          | some (v, H') => some (.reg ops l :: s, putL ts o.dst v, H')
          | none => none)
        else some (.reg ops l :: s, putL ts o.dst undef, H)
  | .code c :: s, ts, H => match c with
    | .skip => some (s, ts, H)
    | .seq a b => some (.code a :: .code b :: s, ts, H)
    | .cond c a b => match rho ts c with
      | .bool t => some (.code (if t then a else b) :: s, ts, H)
      | _ => none
    | .block id c => some (.code c :: .blk id :: s, ts, H)
    | .loop c => some (.lp c :: s, ts, H)
    | .exit id => match unwindTo id s with
      | some s' => some (s', ts, H)
      | none => none
    | .region _ ops draw => if draw then (match xdraw P noCall ops ts H with
        | some (ts', H') => some (s, ts', H')
        | none => none) else some (.reg ops (List.range ops.size) :: s, ts, H)
    | _ => none
theorem noCall_le (c : CallF) : CallF.le noCall c := fun _ _ _ _ h => by cases h
theorem mstep_KR {s' : List It} {ts' : Ts} {H' : Heap} (h : mstep P s ts H = some (s', ts', H')) (hk : KR P good fn s' ts' H' r) : KR P good fn s ts H r := by
  unfold mstep at h
  cases s with
  | nil => cases h
  | cons x s =>
    cases x with
    | blk id => cases h; exact hk
    | lp c => cases h; exact hk.lp
    | reg ops l =>
      cases l with
      | nil => cases h; exact hk.regNil
      | cons i l =>
        simp only at h
        cases ho : ops[i]? with
        | none => simp only [ho] at h; cases h
        | some o =>
          simp only [ho] at h
          split at h
          · rename_i hw
            cases hx : xone P noCall ts H o with
            | none => rw [hx] at h; cases h
            | some v => obtain ⟨v, H1⟩ := v; rw [hx] at h; cases h; exact hk.op ho hw (xone_mono (noCall_le _) hx)
          · rename_i hw
            cases h; exact hk.opNot ho (by simpa using hw)
    | code c =>
      cases c with
      | skip => cases h; exact hk.skip
      | seq a b => cases h; exact hk.seq
      | cond c a b =>
        simp only at h
        cases hv : rho ts c <;> simp only [hv] at h <;> try (cases h; done)
        cases h; exact hk.cond hv
      | block id c => cases h; exact hk.block
      | loop c => cases h; exact hk.loop
      | exit id =>
        simp only at h
        cases hu : unwindTo id s with
        | none => simp only [hu] at h; cases h
        | some s1 => simp only [hu] at h; cases h; exact hk.exit hu
      | region id ops draw =>
        cases draw with
        | false => cases h; exact hk.region
        | true =>
          simp only [if_true] at h
          cases hx : xdraw P noCall ops ts H with
          | none => rw [hx] at h; cases h
          | some x => obtain ⟨ts1, H1⟩ := x; rw [hx] at h; cases h; exact KR.draw (xdraw_mono (noCall_le _) hx) hk
      | _ => cases h

def mrun (P : Program) : Nat → List It → Ts → Heap → Option (List It × Ts × Heap)
  | 0, s, ts, H => some (s, ts, H)
  | n + 1, s, ts, H => match mstep P s ts H with
    | some (s', ts', H') => mrun P n s' ts' H'
    | none => none
theorem mrun_KR : ∀ (n : Nat) {s s' : List It} {ts ts' : Ts} {H H' : Heap}, mrun P n s ts H = some (s', ts', H') → KR P good fn s' ts' H' r → KR P good fn s ts H r := by
  intro n
  induction n with
  | zero => intro s s' ts ts' H H' h hk; simp only [mrun, Option.some.injEq, Prod.mk.injEq] at h; obtain ⟨rfl, rfl, rfl⟩ := h; exact hk
  | succ n ih =>
    intro s s' ts ts' H H' h hk
    simp only [mrun] at h
    cases hm : mstep P s ts H with
    | none => rw [hm] at h; cases h
    | some x => obtain ⟨s1, ts1, H1⟩ := x; rw [hm] at h; exact mstep_KR hm (ih h hk)

/-- The joining: what was found stands for the model's call. -/
theorem xC_calls (hn : CallOK P natC) (hm : P.follows .mixedOrders = true) (hgood : ∀ f fn c, good f = true → P.funcs[f]? = some fn → fn.body = some c → codeOk P c = true) {f : FuncId} {args : List Value} {v : Value} {H' : Heap} (h : xC P good f args H = some (v, H'))
    {m : Plan} {w : World} {args' : List Value} (hH : HRel m H w) (ha : LRel m args args') : CallR P m H w f args'.toArray v H' := by
  obtain ⟨k, hk⟩ := xC_some h
  exact (xsound hn hm hgood k).2.2 f args H v H' hk m w args' hH ha
end
end Go.X
