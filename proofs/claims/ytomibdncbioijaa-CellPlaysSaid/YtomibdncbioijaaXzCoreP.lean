/- Code and calls: an abstract run stands for the model's. -/
import Derived.Test.YtomibdncbioijaaXzCoreO
import Derived.Test.YtomibdncbioijaaXzNat
import Derived.LoopN
set_option linter.unusedVariables false
set_option linter.unusedSimpArgs false
namespace Go.X
open Go Go.RowKit

inductive XE where
  | normal
  | exit (id : Nat)
  | ret
def XE.to : XE → Exit
  | .normal => .normal
  | .exit id => .exit id
  | .ret => .ret

def xres1 (P : Program) (ts : Ts) (H : Heap) : ResultVar → Option Value
  | .tmp t => some (ts.getD t undef)
  | .cell a t => match ts.getD a undef with
    | .pointer (some ad) => match ad.spot with
      | none => match H.get ad.block with
        | .row cs _ => loadOf P t cs ad.off
        | _ => none
      | some _ => none
    | _ => none
def xresL (P : Program) (ts : Ts) (H : Heap) : List ResultVar → Option (List Value)
  | [] => some []
  | r :: l => match xres1 P ts H r, xresL P ts H l with
    | some v, some vs => some (v :: vs)
    | _, _ => none
def tupled : List Value → Value
  | [v] => v
  | l => .tuple l.toArray
def xresults (P : Program) (fn : Func) (ts : Ts) (H : Heap) : Option Value := (xresL P ts H fn.results.toList).map tupled

def initTs (fn : Func) (args : List Value) : Ts := args ++ List.replicate (fn.ntmps - args.length) undef

mutual
def xcode (P : Program) (good : Nat → Bool) : Nat → Code → Ts → Heap → Option (XE × Ts × Heap)
  | 0, _, _, _ => none
  | k + 1, c, ts, H => match c with
    | .skip => some (.normal, ts, H)
    | .region _ ops draw => match (if draw then xdraw P (xcall P good k) ops ts H else xlist P (xcall P good k) ops (List.range ops.size) ts H) with
      | some (ts', H') => some (.normal, ts', H')
      | none => none
    | .seq a b => match xcode P good k a ts H with
      | some (.normal, ts', H') => xcode P good k b ts' H'
      | r => r
    | .cond c a b => match rho ts c with
      | .bool t => xcode P good k (if t then a else b) ts H
      | _ => none
    | .block id c => match xcode P good k c ts H with
      | some (.exit i, ts', H') => if i = id then some (.normal, ts', H') else some (.exit i, ts', H')
      | r => r
    | .loop c => match xcode P good k c ts H with
      | some (.normal, ts', H') => xcode P good k (.loop c) ts' H'
      | r => r
    | .exit id => some (.exit id, ts, H)
    | .ret => some (.ret, ts, H)
    | _ => none
def xcall (P : Program) (good : Nat → Bool) : Nat → FuncId → List Value → Heap → Option (Value × Heap)
  | 0, _, _, _ => none
  | k + 1, f, args, H => if good f then match P.funcs[f]? with
    | some fn => match fn.body with
      | some c => match xcode P good k c (initTs fn args) H with
        | some (.normal, ts, H') => (xresults P fn ts H').map fun v => (v, H')
        | some (.ret, ts, H') => (xresults P fn ts H').map fun v => (v, H')
        | _ => none
      | none => none
    | none => none else natC f args H
end

def codeOk (P : Program) : Code → Bool
  | .region _ ops draw => ops.all operOk && (!draw || drawOk P ops)
  | .seq a b => codeOk P a && codeOk P b
  | .cond c a b => operandOk c && codeOk P a && codeOk P b
  | .block _ c => codeOk P c
  | .loop c => codeOk P c
  | _ => true

section
variable {P : Program} {good : Nat → Bool} {m : Plan}

theorem load_run {H : Heap} {w : World} {t : TypeId} {b o : Nat} {e : Ent} {cs : List Value} {own : Bool} {v : Value} (hH : HRel m H w) (hb : m b = some e) (hg : H.get b = .row cs own) (h : loadOf P t cs o = some v) :
    ∃ v', VRel m v v' ∧ (loadVar t (e.a.add o)).run P w = .ok v' w := by
  have hrd : xread P (rho [.pointer (some ⟨b, o, none⟩)]) H ⟨none, .load t (.tmp 0), 0, "", #[], none⟩ = some v := by
    simp only [xread, rho, List.getD_cons_zero]
    simp only [hg]
    exact h
  obtain ⟨v', hr, hs⟩ := xread_run (ρ' := Act.eval ⟨#[.pointer (some (e.a.add o))], []⟩) hH (fun x hx => by
    have : x = .tmp 0 := by simpa [Op.operands] using hx
    subst this
    exact VRel.ptr hb) hrd
  refine ⟨v', hr, ?_⟩
  simp only [execOp, Act.eval, Instr.loadAt, Instr.sureAddr, Sem.run_bind] at hs
  have e0 : (#[Value.pointer (some (e.a.add o))] : Array Value).getD 0 undef = .pointer (some (e.a.add o)) := rfl
  rw [e0] at hs
  simp only [Sem.run_pure, Result.andThen_ok] at hs
  cases hl : (loadVar t (e.a.add o)).run P w with
  | ok u w1 => rw [hl] at hs; simp only [Result.andThen_ok] at hs; cases hs; rfl
  | halt x w1 => rw [hl] at hs; cases hs

def resSem (tmps : Array Value) : ResultVar → Sem Value
  | .tmp t => pure (tmps.getD t undef)
  | .cell a t => do loadVar t (← asAddr (tmps.getD a undef))
theorem results_eq (fn : Func) (tmps : Array Value) : results fn tmps = (do let vs ← fn.results.mapM (resSem tmps); pure (if h : vs.size = 1 then vs[0] else .tuple vs)) := rfl

theorem xresults_run {fn : Func} {ts : Ts} {H : Heap} {v : Value} {a : Act} {w : World} (hH : HRel m H w) (ht : TsRel m ts a) (h : xresults P fn ts H = some v) : ∃ v', VRel m v v' ∧ (results fn a.tmps).run P w = .ok v' w := by
  obtain ⟨l, hl, rfl⟩ := Option.map_eq_some_iff.1 h
  have key : ∀ (rs : List ResultVar) (l : List Value), xresL P ts H rs = some l → ∃ l', LRel m l l' ∧
      (rs.mapM (resSem a.tmps)).run P w = .ok l' w := by
    intro rs
    induction rs with
    | nil => intro l h; simp [xresL] at h; subst h; exact ⟨[], LRel.nil m, rfl⟩
    | cons r rs ih =>
      intro l h
      simp only [xresL] at h
      cases h1 : xres1 P ts H r with
      | none => simp [h1] at h
      | some v =>
        cases h2 : xresL P ts H rs with
        | none => simp [h1, h2] at h
        | some vs =>
          simp only [h1, h2, Option.some.injEq] at h
          subst h
          obtain ⟨l', hr, hs⟩ := ih vs h2
          have hone : ∃ v', VRel m v v' ∧ (resSem a.tmps r).run P w = .ok v' w := by
            cases r with
            | tmp t =>
              simp only [xres1, Option.some.injEq] at h1
              subst h1
              have := LRel.getD ht VRel.undef t
              exact ⟨_, this, by simp [resSem]⟩
            | cell ad t =>
              simp only [xres1] at h1
              have hga := LRel.getD ht VRel.undef ad
              have e0 : a.tmps.toList.getD ad undef = a.tmps.getD ad undef := by simp
              rw [e0] at hga
              generalize ts.getD ad undef = va at *
              generalize hq : a.tmps.getD ad undef = va' at *
              cases hga with
              | bool | int | string | nilptr | slice | nilslice | empty | nilmap | map | func | nilFunc | nilIface | iface | agg | tuple => cases h1
              | ptr hb =>
                rename_i bb o e
                simp only at h1
                cases hg : H.get bb with
                | dead => simp [hg] at h1
                | map es => simp [hg] at h1
                | row cs own =>
                  simp only [hg] at h1
                  obtain ⟨v', hr', hs'⟩ := load_run hH hb hg h1
                  exact ⟨v', hr', by simp only [resSem, hq, Sem.run_bind, asAddr, Sem.run_pure, Result.andThen_ok, hs']⟩
          obtain ⟨v', hr', hs'⟩ := hone
          refine ⟨v' :: l', LRel.cons hr' hr, ?_⟩
          simp only [List.mapM_cons, Sem.run_bind, hs', Result.andThen_ok, hs, Sem.run_pure]
  obtain ⟨l', hr, hs⟩ := key _ _ hl
  have hA : (fn.results.mapM (resSem a.tmps)).run P w = .ok l'.toArray w := by
    rw [Array.mapM_eq_mapM_toList]
    simp only [Sem.run_map, hs, Result.andThen_ok]
  have htu : VRel m (tupled l) (if h : l'.toArray.size = 1 then l'.toArray[0] else .tuple l'.toArray) := by
    have hlen := hr.1
    match l, l', hr, hlen with
    | [], [], hr, _ => exact VRel.tuple_iff.2 ⟨_, rfl, LRel.nil m⟩
    | [v], [v'], hr, _ => exact hr.head
    | v :: u :: l, v' :: u' :: l', hr, _ => exact VRel.tuple_iff.2 ⟨_, rfl, hr⟩
  refine ⟨_, htu, ?_⟩
  rw [results_eq]
  simp only [Sem.run_bind, hA]
  rfl

theorem xsound (hn : CallOK P natC) (hm : P.follows .mixedOrders = true) (hgood : ∀ f fn c, good f = true → P.funcs[f]? = some fn → fn.body = some c → codeOk P c = true) : ∀ (k : Nat),
    (∀ (c : Code) (ts : Ts) (H : Heap) (e : XE) (ts' : Ts) (H' : Heap), xcode P good k c ts H = some (e, ts', H') → codeOk P c = true → ∀ (m : Plan) (a : Act) (w : World) (Q : Exit → Act → World → Prop), HRel m H w → TsRel m ts a →
      (∀ m' a' w', HRel m' H' w' → TsRel m' ts' a' → a'.defers = a.defers → Fr m H w m' H' w' → Q e.to a' w') → c.wp P Q a w) ∧
    (∀ (c : Code) (ts : Ts) (H : Heap) (e : XE) (ts' : Ts) (H' : Heap), xcode P good k (.loop c) ts H = some (e, ts', H') → codeOk P c = true → ∀ (m : Plan) (a : Act) (w : World) (Q : Exit → Act → World → Prop), HRel m H w → TsRel m ts a →
      (∀ m' a' w', HRel m' H' w' → TsRel m' ts' a' → a'.defers = a.defers → Fr m H w m' H' w' → Q e.to a' w') → Code.rounds P c Q k a w) ∧
    CallOK P (xcall P good k) := by
  intro k
  induction k with
  | zero =>
    exact ⟨fun c ts H e ts' H' h => by simp [xcode] at h, fun c ts H e ts' H' h => by simp [xcode] at h, fun f args H v H' h => by simp [xcall] at h⟩
  | succ k ih =>
    obtain ⟨ih1, ih2, ih3⟩ := ih
    have loop : ∀ (c : Code) (ts : Ts) (H : Heap) (e : XE) (ts' : Ts) (H' : Heap), xcode P good (k + 1) (.loop c) ts H = some (e, ts', H') → codeOk P c = true → ∀ (m : Plan) (a : Act) (w : World) (Q : Exit → Act → World → Prop), HRel m H w → TsRel m ts a →
        (∀ m' a' w', HRel m' H' w' → TsRel m' ts' a' → a'.defers = a.defers → Fr m H w m' H' w' → Q e.to a' w') → Code.rounds P c Q (k + 1) a w := by
      intro c ts H e ts' H' h hok m a w Q hH ht hQ
      simp only [xcode] at h
      show c.wp P (Exit.then (Code.rounds P c Q k) Q) a w
      cases hx : xcode P good k c ts H with
      | none => simp [hx] at h
      | some r =>
        obtain ⟨e1, ts1, H1⟩ := r
        cases e1 with
        | normal =>
          simp only [hx] at h
          refine ih1 c ts H .normal ts1 H1 hx hok m a w _ hH ht fun m1 a1 w1 g1 g2 g3 g4 => ?_
          exact ih2 c ts1 H1 e ts' H' h hok m1 a1 w1 Q g1 g2 fun m2 a2 w2 q1 q2 q3 q4 => hQ m2 a2 w2 q1 q2 (q3.trans g3) (g4.trans q4)
        | exit id => simp only [hx, Option.some.injEq, Prod.mk.injEq] at h; obtain ⟨rfl, rfl, rfl⟩ := h; exact ih1 c ts H _ _ _ hx hok m a w _ hH ht hQ
        | ret => simp only [hx, Option.some.injEq, Prod.mk.injEq] at h; obtain ⟨rfl, rfl, rfl⟩ := h; exact ih1 c ts H _ _ _ hx hok m a w _ hH ht hQ
    refine ⟨?_, loop, ?_⟩
    · intro c ts H e ts' H' h hok m a w Q hH ht hQ
      cases c with
      | skip => simp only [xcode, Option.some.injEq, Prod.mk.injEq] at h; obtain ⟨rfl, rfl, rfl⟩ := h; exact wp_skip (hQ m a w hH ht rfl (Fr.refl _ _ _))
      | exit id => simp only [xcode, Option.some.injEq, Prod.mk.injEq] at h; obtain ⟨rfl, rfl, rfl⟩ := h; exact wp_exit (hQ m a w hH ht rfl (Fr.refl _ _ _))
      | ret => simp only [xcode, Option.some.injEq, Prod.mk.injEq] at h; obtain ⟨rfl, rfl, rfl⟩ := h; exact wp_ret (hQ m a w hH ht rfl (Fr.refl _ _ _))
      | region id ops draw =>
        simp only [codeOk, Bool.and_eq_true] at hok
        simp only [xcode] at h
        cases draw with
        | false =>
          simp only [Bool.false_eq_true, if_false] at h
          cases hx : xlist P (xcall P good k) ops (List.range ops.size) ts H with
          | none => simp [hx] at h
          | some r =>
            obtain ⟨ts1, H1⟩ := r
            simp only [hx, Option.some.injEq, Prod.mk.injEq] at h
            obtain ⟨rfl, rfl, rfl⟩ := h
            exact wp_region (xlist_run ih3 hok.1 _ m ts H ts1 H1 a w hx hH ht hQ)
        | true =>
          simp only [if_true] at h
          cases hx : xdraw P (xcall P good k) ops ts H with
          | none => simp [hx] at h
          | some r =>
            obtain ⟨ts1, H1⟩ := r
            simp only [hx, Option.some.injEq, Prod.mk.injEq] at h
            obtain ⟨rfl, rfl, rfl⟩ := h
            exact xdraw_run hm ih3 hok.1 (by simpa using hok.2) hx hH ht hQ
      | seq x y =>
        simp only [codeOk, Bool.and_eq_true] at hok
        simp only [xcode] at h
        cases hx : xcode P good k x ts H with
        | none => simp [hx] at h
        | some r =>
          obtain ⟨e1, ts1, H1⟩ := r
          cases e1 with
          | normal =>
            simp only [hx] at h
            refine wp_seq (ih1 x ts H .normal ts1 H1 hx hok.1 m a w _ hH ht fun m1 a1 w1 g1 g2 g3 g4 => ?_)
            exact ih1 y ts1 H1 e ts' H' h hok.2 m1 a1 w1 Q g1 g2 fun m2 a2 w2 q1 q2 q3 q4 => hQ m2 a2 w2 q1 q2 (q3.trans g3) (g4.trans q4)
          | exit id => simp only [hx, Option.some.injEq, Prod.mk.injEq] at h; obtain ⟨rfl, rfl, rfl⟩ := h; exact wp_seq (ih1 x ts H _ _ _ hx hok.1 m a w _ hH ht hQ)
          | ret => simp only [hx, Option.some.injEq, Prod.mk.injEq] at h; obtain ⟨rfl, rfl, rfl⟩ := h; exact wp_seq (ih1 x ts H _ _ _ hx hok.1 m a w _ hH ht hQ)
      | cond c x y =>
        simp only [codeOk, Bool.and_eq_true] at hok
        simp only [xcode] at h
        have hc := rho_rel ht hok.1.1
        cases hv : rho ts c <;> simp only [hv] at h <;> try (cases h; done)
        rename_i t
        rw [hv] at hc
        have hc' := VRel.bool_iff.1 hc
        refine wp_cond hc' ?_
        cases t
        · exact ih1 y ts H e ts' H' h hok.2 m a w Q hH ht hQ
        · exact ih1 x ts H e ts' H' h hok.1.2 m a w Q hH ht hQ
      | block id c =>
        simp only [codeOk] at hok
        simp only [xcode] at h
        cases hx : xcode P good k c ts H with
        | none => simp [hx] at h
        | some r =>
          obtain ⟨e1, ts1, H1⟩ := r
          cases e1 with
          | normal => simp only [hx, Option.some.injEq, Prod.mk.injEq] at h; obtain ⟨rfl, rfl, rfl⟩ := h; exact wp_block (ih1 c ts H _ _ _ hx hok m a w _ hH ht hQ)
          | ret => simp only [hx, Option.some.injEq, Prod.mk.injEq] at h; obtain ⟨rfl, rfl, rfl⟩ := h; exact wp_block (ih1 c ts H _ _ _ hx hok m a w _ hH ht hQ)
          | exit i =>
            simp only [hx] at h
            refine wp_block (ih1 c ts H _ _ _ hx hok m a w _ hH ht fun m1 a1 w1 g1 g2 g3 g4 => ?_)
            show (if i = id then Q .normal a1 w1 else Q (.exit i) a1 w1)
            split at h
            · rename_i hi
              simp only [Option.some.injEq, Prod.mk.injEq] at h
              obtain ⟨rfl, rfl, rfl⟩ := h
              rw [if_pos hi]
              exact hQ m1 a1 w1 g1 g2 g3 g4
            · rename_i hi
              simp only [Option.some.injEq, Prod.mk.injEq] at h
              obtain ⟨rfl, rfl, rfl⟩ := h
              rw [if_neg hi]
              exact hQ m1 a1 w1 g1 g2 g3 g4
      | loop c => exact wp_loop_rounds (k + 1) (loop c ts H e ts' H' h hok m a w Q hH ht hQ)
      | _ => simp [xcode] at h
    · intro f args H v H' h m w args' hH ha
      simp only [xcall] at h
      split at h
      · rename_i hg
        cases hf : P.funcs[f]? with
        | none => simp [hf] at h
        | some fn =>
          simp only [hf] at h
          cases hb : fn.body with
          | none => simp [hb] at h
          | some c =>
            simp only [hb] at h
            have hcode := hgood f fn c hg hf hb
            have ht0 : TsRel m (initTs fn args) ⟨args'.toArray ++ Array.replicate (fn.ntmps - args'.toArray.size) undef, []⟩ := by
              simp only [TsRel, initTs, Array.toList_append, Array.toList_replicate, List.size_toArray]
              rw [← ha.1]
              exact ha.append (LRel.replicate _ VRel.undef)
            refine calls_of_wp hf hb ?_
            cases hx : xcode P good k c (initTs fn args) H with
            | none => simp [hx] at h
            | some r =>
              obtain ⟨e1, ts1, H1⟩ := r
              have fin : ∀ e1, xcode P good k c (initTs fn args) H = some (e1, ts1, H1) → (e1 = .normal ∨ e1 = .ret) → (xresults P fn ts1 H1).map (fun v => (v, H1)) = some (v, H') →
                  c.wp P (bodyPost P fn fun e w' => ∃ v' m', e = .returned v' ∧ VRel m' v v' ∧ HRel m' H' w' ∧ Fr m H w m' H' w') ⟨args'.toArray ++ Array.replicate (fn.ntmps - args'.toArray.size) undef, []⟩ w := by
                intro e1 hx he hres
                obtain ⟨v0, hv0, h2⟩ := Option.map_eq_some_iff.1 hres
                simp only [Prod.mk.injEq] at h2
                obtain ⟨rfl, rfl⟩ := h2
                refine ih1 c _ H e1 ts1 _ hx hcode m _ w _ hH ht0 fun m1 a1 w1 g1 g2 g3 g4 => ?_
                obtain ⟨v', hr, hs⟩ := xresults_run g1 g2 hv0
                have g3' : a1.defers = [] := g3
                rcases he with rfl | rfl
                · exact ⟨g3', v', hs, v', m1, rfl, hr, g1, g4⟩
                · exact ⟨g3', v', hs, v', m1, rfl, hr, g1, g4⟩
              cases e1 with
              | normal => simp only [hx] at h; exact fin _ hx (.inl rfl) h
              | ret => simp only [hx] at h; exact fin _ hx (.inr rfl) h
              | exit id => simp [hx] at h
      · exact hn f args H v H' h m w args' hH ha
end
end Go.X
