/- Effects in their order: store, append, copy, clear, a mark; calls. -/
import Derived.Test.YtomibdncbioijaaXzCoreG
set_option linter.unusedVariables false
set_option linter.unusedSimpArgs false
namespace Go.X
open Go Go.RowKit

section
variable {P : Program} {m : Plan} {ρ ρ' : Operand → Value}

def xstore (P : Program) (H : Heap) (t : TypeId) (a v : Value) : Option Heap :=
  match P.info? t with
  | none => none
  | some inf => match a with
    | .pointer (some ad) => match ad.spot with
      | some _ => none
      | none => match H.get ad.block with
        | .row cs true => if notTuple v = true ∧ v.cells.size = inf.size ∧ ad.off + inf.size ≤ cs.length then some (H.set ad.block (.row (setMany cs ad.off v.cells.toList) true)) else none
        | _ => none
    | _ => none

/-- Writing cells into an owned row. -/
theorem write_row {H : Heap} {w : World} (h : HRel m H w) {b o : Nat} {e : Ent} {cs vs vs' : List Value} (hb : m b = some e) (hg : H.get b = .row cs true) (hr : LRel m vs vs') (h1 : ∀ v ∈ vs, v.oneCell' = true) (hle : o + vs.length ≤ cs.length) :
    ∃ w', (storeCells (e.a.add o) vs').run P w = .ok () w' ∧ HRel m (H.set b (.row (setMany cs o vs) true)) w' ∧ Fr m H w m (H.set b (.row (setMany cs o vs) true)) w' := by
  have hO := h.obj b e hb
  rw [hg] at hO
  obtain ⟨o1, o2, o3, o4, o5⟩ := hO
  obtain ⟨w', hrun, hsz, hoth, hos, htape, hout, hcells, huf, hrel, _, _⟩ := run_storeCells_x (P := P) o1 vs vs' cs o 0 w e.cells hr h1 (by omega) o4 o5 o2
  have hORel : ORel m w' e (.row (setMany cs o vs) true) := ⟨o1, huf, by rw [setMany_length]; exact o3, hcells, by simpa using hrel⟩
  obtain ⟨g1, g2⟩ := h.write hb (by rw [hg]; rfl) _ hORel rfl hsz hoth hos htape hout
  exact ⟨w', hrun, g1, g2⟩

theorem xstore_run {H H' : Heap} {w : World} (h : HRel m H w) {t : TypeId} {a a' v v' : Value} (ha : VRel m a a') (hv : VRel m v v') (hs : xstore P H t a v = some H') :
    ∃ w', (Instr.storeAt t a' v').run P w = .ok () w' ∧ HRel m H' w' ∧ Fr m H w m H' w' := by
  unfold xstore at hs
  cases hi : P.info? t with
  | none => simp [hi] at hs
  | some inf =>
    simp only [hi] at hs
    cases ha with
    | bool | int | string | nilptr | slice | nilslice | empty | nilmap | map | func | nilFunc | nilIface | iface | agg | tuple => cases hs
    | ptr hb =>
      rename_i b o e
      simp only at hs
      cases hg : H.get b with
      | dead => simp [hg] at hs
      | map es => simp [hg] at hs
      | row cs own =>
        cases own with
        | false => simp [hg] at hs
        | true =>
          simp only [hg] at hs
          split at hs
          · rename_i hc
            obtain ⟨c1, c2, c3⟩ := hc
            cases hs
            have hcr := hv.cells
            have hsz : v'.cells.size = inf.size := by have := hcr.1; simp only [Array.length_toList] at this; omega
            obtain ⟨w', hrun, g1, g2⟩ := write_row (P := P) (o := o) h hb hg hcr (hv.cells1 c1) (by rw [Array.length_toList, c2]; exact c3)
            refine ⟨w', ?_, g1, g2⟩
            simp only [Instr.storeAt, Instr.sureAddr, storeVar, Sem.run_bind, Sem.run_pure, Result.andThen_ok, sizeOf, typeInfo, run_program, hi, hsz, ne_eq, not_true, if_false, hrun]
          · cases hs

def xcopy (H : Heap) (sz : Nat) (d s : Value) : Option (Nat × Heap) :=
  match xsrc H sz s, d with
  | some (k, news), .slice none n _ => if n = 0 then some (0, H) else none
  | some (k, news), .slice (some ad) n _ => match ad.spot with
    | some _ => if n = 0 then some (0, H) else none
    | none => if Nat.min k n = 0 then some (0, H) else match H.get ad.block with
      | .row cs true => if ad.off + Nat.min k n * sz ≤ cs.length then some (Nat.min k n, H.set ad.block (.row (setMany cs ad.off (news.take (Nat.min k n * sz))) true)) else none
      | _ => none
  | _, _ => none

theorem xcopy_run {H H' : Heap} {w : World} (h : HRel m H w) {t u ty e : TypeId} {i : TypeInfo} (ht : P.underlying t = some (.slice e)) (hi : P.info? e = some i) {d d' s s' : Value} {k : Nat}
    (hd : VRel m d d') (hs : VRel m s s') (hv : xcopy H i.size d s = some (k, H')) : ∃ w', (Builtin.copy_ #[t, u] ty #[d', s']).run P w = .ok (.int .i64 k) w' ∧ HRel m H' w' ∧ Fr m H w m H' w' := by
  unfold xcopy at hv
  cases hsrc : xsrc H i.size s with
  | none => simp [hsrc] at hv
  | some kn =>
    obtain ⟨q, news⟩ := kn
    simp only [hsrc] at hv
    obtain ⟨news', hS, hrn, h1n, hln⟩ := xsrc_run (P := P) h hs hsrc
    have e0 : (#[t, u] : Array TypeId)[0]? = some t := rfl
    have step : ∀ (base : Option Addr) (n c : Nat), d' = .slice base n c → ∀ w', (match base with | some a => (storeCells a (news'.take (Nat.min q n * i.size))).run P w | none => .ok () w) = .ok () w' →
        (Builtin.copy_ #[t, u] ty #[d', s']).run P w = .ok (.int .i64 (Nat.min q n)) w' := by
      intro base n c hd' w' hst
      subst hd'
      have e2 : (#[Value.slice base n c, s'] : Array Value)[0]? = some (.slice base n c) := rfl
      have e3 : (#[Value.slice base n c, s'] : Array Value)[1]? = some s' := rfl
      have hf := hS.take (Nat.min q n) (Nat.min_le_left _ _) w fun _ => rfl
      unfold Builtin.copy_
      simp only [e0, e2, e3, Sem.run_bind, run_underlying ht, Result.andThen_ok, hS.len, sizeOf, typeInfo, run_program, hi, Sem.run_pure, hf]
      cases base with
      | none => simp only [Sem.run_pure, Result.andThen_ok] at hst ⊢; cases hst; rfl
      | some a => simp only [Sem.run_bind] at hst ⊢; rw [hst]; rfl
    cases hd with
    | bool | int | string | nilptr | ptr | nilmap | map | func | nilFunc | nilIface | iface | agg | tuple => cases hv
    | nilslice => simp only [if_true] at hv; cases hv; refine ⟨w, ?_, h, Fr.refl _ _ _⟩; rw [step none 0 0 rfl w rfl]; simp
    | empty hc => simp only [if_true] at hv; cases hv; refine ⟨w, ?_, h, Fr.refl _ _ _⟩; rw [step _ 0 _ rfl w (by simp [storeCells])]; simp
    | slice hb a1 a2 a3 a4 =>
      rename_i b o n c c' en
      simp only at hv
      split at hv
      · rename_i hm
        cases hv
        refine ⟨w, ?_, h, Fr.refl _ _ _⟩
        rw [step _ n _ rfl w (by simp only [hm]; simp [storeCells]), hm]
      · rename_i hm
        cases hg : H.get b with
        | dead => simp [hg] at hv
        | map es => simp [hg] at hv
        | row cs own =>
          cases own with
          | false => simp [hg] at hv
          | true =>
            simp only [hg] at hv
            split at hv
            · rename_i hle
              cases hv
              have hlt : (news.take (Nat.min q n * i.size)).length ≤ Nat.min q n * i.size := by rw [List.length_take]; omega
              obtain ⟨w', hrun, g1, g2⟩ := write_row (P := P) (o := o) h hb hg (hrn.take (Nat.min q n * i.size)) (fun v hv => h1n v (List.mem_of_mem_take hv)) (by omega)
              exact ⟨w', step _ n _ rfl w' hrun, g1, g2⟩
            · cases hv

def xclear (H : Heap) (z : List Value) (x : Value) : Option Heap :=
  match x with
  | .slice none _ _ => some H
  | .slice (some ad) n _ => if n = 0 then some H else match ad.spot with
    | some _ => none
    | none => match H.get ad.block with
      | .row cs true => if ad.off + n * z.length ≤ cs.length then some (H.set ad.block (.row (setMany cs ad.off (zerosL z n)) true)) else none
      | _ => none
  | _ => none

theorem xclear_run {H H' : Heap} {w : World} (h : HRel m H w) {t ty e : TypeId} {i : TypeInfo} {z : Value} (ht : P.underlying t = some (.slice e)) (hi : P.info? e = some i) (hz : i.zero = some z) (hp : plainB 9 z = true) (hnt : notTuple z = true) (hzp : 0 < z.cells.size)
    {x x' : Value} (hx : VRel m x x') (hv : xclear H z.cells.toList x = some H') : ∃ w', (Builtin.clear_ #[t] ty #[x']).run P w = .ok undef w' ∧ HRel m H' w' ∧ Fr m H w m H' w' := by
  unfold xclear at hv
  have e0 : (#[t] : Array TypeId)[0]? = some t := rfl
  have e1 : (#[x'] : Array Value)[0]? = some x' := rfl
  cases hx with
  | bool | int | string | nilptr | ptr | nilmap | map | func | nilFunc | nilIface | iface | agg | tuple => cases hv
  | nilslice => cases hv; exact ⟨w, by simp [Builtin.clear_, run_underlying ht, undef], h, Fr.refl _ _ _⟩
  | empty hc => simp only [if_true] at hv; cases hv; exact ⟨w, by simp [Builtin.clear_, run_underlying ht, undef], h, Fr.refl _ _ _⟩
  | slice hb a1 a2 a3 a4 =>
    rename_i b o n c c' en
    simp only at hv
    split at hv
    · rename_i h0
      subst h0
      cases hv
      exact ⟨w, by simp [Builtin.clear_, run_underlying ht, undef], h, Fr.refl _ _ _⟩
    · rename_i h0
      cases hg : H.get b with
      | dead => simp [hg] at hv
      | map es => simp [hg] at hv
      | row cs own =>
        cases own with
        | false => simp [hg] at hv
        | true =>
          simp only [hg] at hv
          split at hv
          · rename_i hle
            cases hv
            have hzr := (plainB_rel 9 z hp).rel m
            have hrel : LRel m (zerosL z.cells.toList n) (Builtin.zeroCells z.cells n).toList := by
              have := zeros_rel (n := n) hzr rfl hzp
              simpa [madeCells, Builtin.zeroCells] using this
            obtain ⟨w', hrun, g1, g2⟩ := write_row (P := P) (o := o) h hb hg hrel (fun v hv => hzr.cells1 hnt v (mem_zerosL hv)) (by rw [zerosL_length]; omega)
            refine ⟨w', ?_, g1, g2⟩
            obtain ⟨n, rfl⟩ : ∃ k, n = k + 1 := ⟨n - 1, by omega⟩
            unfold Builtin.clear_
            simp only [e0, e1, Sem.run_bind, run_underlying ht, Result.andThen_ok, zeroValue, typeInfo, run_program, hi, Sem.run_pure, hz, hrun]
            rfl
          · cases hv

/-! ### the serial effects, together -/
def isSliceOrString : TypeDesc → Bool
  | .slice _ | .string => true
  | _ => false

def xser (P : Program) (ρ : Operand → Value) (H : Heap) (o : Oper) : Option (Value × Heap) :=
  match o.op with
  | .store t a x => (xstore P H t (ρ a) (ρ x)).map fun H' => (undef, H')
  | .call c => match c.callee, c.argTypes.toList, c.args.toList with
    | .builtin .append, [t, u], [a, x] => match P.underlying t, P.underlying u with
      | some (.slice e), some ud => if isSliceOrString ud then (match P.info? e with
        | some i => match i.zero with
          | some z => if z.cells.size = i.size then xappend H i.size i.bytes (ρ a) (ρ x) else none
          | none => none
        | none => none) else none
      | _, _ => none
    | .builtin .copy, [t, _], [a, x] => match P.underlying t with
      | some (.slice e) => match P.info? e with
        | some i => (xcopy H i.size (ρ a) (ρ x)).map fun r => (.int .i64 r.1, r.2)
        | none => none
      | _ => none
    | .builtin .clear, [t], [a] => match P.underlying t with
      | some (.slice e) => match P.info? e with
        | some i => match i.zero with
          | some z => if plainB 9 z = true ∧ notTuple z = true ∧ 0 < z.cells.size then (xclear H z.cells.toList (ρ a)).map fun H' => (undef, H') else none
          | none => none
        | none => none
      | _ => none
    | _, _, _ => none
  | _ => none

/-- What an operation that does something comes to: its answer, and the world behind it. -/
def EffO (P : Program) (m : Plan) (H : Heap) (w : World) (ρ' : Operand → Value) (o : Oper) (v : Value) (H' : Heap) : Prop :=
  ∃ nx w' m' v', (execOp ρ' o).run P w = .ok nx w' ∧ (nx = .value v' ∨ (nx = .skip ∧ v' = undef)) ∧ VRel m' v v' ∧ HRel m' H' w' ∧ Fr m H w m' H' w'

theorem array_of_toList {α : Type} {a : Array α} {l : List α} (h : a.toList = l) : a = l.toArray := by rw [← h]

theorem xser_run {H H' : Heap} {w : World} {o : Oper} {v : Value} (h : HRel m H w) (hρ : OpsRel m ρ ρ' o) (hv : xser P ρ H o = some (v, H')) : EffO P m H w ρ' o v H' := by
  obtain ⟨dst, op, ty, pos, after, guard⟩ := o
  unfold OpsRel at hρ
  cases op with
  | store t a x =>
    simp only [xser] at hv
    obtain ⟨H1, h1, h2⟩ := Option.map_eq_some_iff.1 hv
    cases h2
    obtain ⟨w', hrun, g1, g2⟩ := xstore_run h (hρ a (by simp [Op.operands])) (hρ x (by simp [Op.operands])) h1
    exact ⟨.skip, w', m, undef, by simp only [execOp, Sem.run_bind, hrun, Result.andThen_ok, Sem.run_pure], .inr ⟨rfl, rfl⟩, VRel.undef, g1, g2⟩
  | call c =>
    obtain ⟨callee, args, argTypes⟩ := c
    simp only [xser] at hv
    have hargs : LRel m (args.toList.map ρ) (args.toList.map ρ') := LRel.map _ _ _ fun x hx => hρ x (by simp only [Op.operands, Call.operands]; exact Array.mem_append.2 (.inr (by simpa using hx)))
    have key : ∀ (b : Builtin) (s : Sem Value), callee = .builtin b → (∀ w, (builtin b argTypes ty (args.map fun | .const _ => true | _ => false) (args.map ρ')).run P w = (do pure (.value (← s)) : Sem Next).run P w) →
        (∃ w' m' v', s.run P w = .ok v' w' ∧ VRel m' v v' ∧ HRel m' H' w' ∧ Fr m H w m' H' w') → EffO P m H w ρ' ⟨dst, .call ⟨callee, args, argTypes⟩, ty, pos, after, guard⟩ v H' := by
      intro b s hc hb ⟨w', m', v', hr, h1, h2, h3⟩
      subst hc
      refine ⟨.value v', w', m', v', ?_, .inl rfl, h1, h2, h3⟩
      have := hb w
      simp only [Sem.run_bind, hr, Result.andThen_ok, Sem.run_pure] at this
      simp only [execOp, resolve, Sem.run_bind, Sem.run_pure, Result.andThen_ok, invoke]
      exact this
    split at hv
    · rename_i t u a x hT hA
      have hT' := array_of_toList hT
      have hA' := array_of_toList hA
      subst hT'
      subst hA'
      have ha : VRel m (ρ a) (ρ' a) := hargs.head
      have hx : VRel m (ρ x) (ρ' x) := hargs.tail.head
      cases ht : P.underlying t with
      | none => simp [ht] at hv
      | some ud0 =>
        cases ud0 <;> (try simp only [ht] at hv) <;> try (cases hv; done)
        rename_i e
        cases hu : P.underlying u with
        | none => simp [hu] at hv
        | some ud =>
          simp only [hu] at hv
          split at hv
          · rename_i hss
            cases hi : P.info? e with
            | none => simp [hi] at hv
            | some i =>
              simp only [hi] at hv
              cases hz : i.zero with
              | none => simp [hz] at hv
              | some z =>
                simp only [hz] at hv
                split at hv
                · rename_i hzs
                  obtain ⟨w', m', v', r1, r2, r3, r4⟩ := (xappend_run (ty := ty) h ht hu (fun k hk => by subst hk; cases hss) hi hz hzs ha hx hv).out
                  exact key .append _ rfl (fun w => rfl) ⟨w', m', v', by simpa using r1, r2, r3, r4⟩
                · cases hv
          · cases hv
    · rename_i t u a x hT hA
      have hT' := array_of_toList hT
      have hA' := array_of_toList hA
      subst hT'
      subst hA'
      have ha : VRel m (ρ a) (ρ' a) := hargs.head
      have hx : VRel m (ρ x) (ρ' x) := hargs.tail.head
      cases ht : P.underlying t with
      | none => simp [ht] at hv
      | some ud0 =>
        cases ud0 <;> (try simp only [ht] at hv) <;> try (cases hv; done)
        rename_i e
        cases hi : P.info? e with
        | none => simp [hi] at hv
        | some i =>
          simp only [hi] at hv
          obtain ⟨r, hr, h2⟩ := Option.map_eq_some_iff.1 hv
          cases h2
          obtain ⟨w', r1, r3, r4⟩ := xcopy_run (u := u) (ty := ty) h ht hi ha hx hr
          exact key .copy _ rfl (fun w => rfl) ⟨w', m, _, by simpa using r1, .int _ _, r3, r4⟩
    · rename_i t a hT hA
      have hT' := array_of_toList hT
      have hA' := array_of_toList hA
      subst hT'
      subst hA'
      have ha : VRel m (ρ a) (ρ' a) := hargs.head
      cases ht : P.underlying t with
      | none => simp [ht] at hv
      | some ud0 =>
        cases ud0 <;> (try simp only [ht] at hv) <;> try (cases hv; done)
        rename_i e
        cases hi : P.info? e with
        | none => simp [hi] at hv
        | some i =>
          simp only [hi] at hv
          cases hz : i.zero with
          | none => simp [hz] at hv
          | some z =>
            simp only [hz] at hv
            split at hv
            · rename_i hc
              obtain ⟨H1, h1, h2⟩ := Option.map_eq_some_iff.1 hv
              cases h2
              obtain ⟨w', r1, r3, r4⟩ := xclear_run (ty := ty) h ht hi hz hc.1 hc.2.1 hc.2.2 ha h1
              exact key .clear _ rfl (fun w => rfl) ⟨w', m, _, by simpa using r1, VRel.undef, r3, r4⟩
            · cases hv
    · cases hv
  | _ => simp [xser] at hv

/-! ### calls -/
def fnGoes (P : Program) (f : FuncId) : Bool :=
  match P.funcs[f]? with
  | some fn => fn.body.isSome && !(fn.name == "runtime.NumGoroutine")
  | none => false

/-- Of a value behind an interface: its method, and the receiver. -/
def xmethod (P : Program) (t : TypeId) (name : String) : Option FuncId :=
  match P.info? t with
  | none => none
  | some i => match i.methods.find? (·.name == name) with
    | none => none
    | some mt => if mt.path.size = 0 then (match mt.func with
      | some (f, pr) => match P.underlying t with
        | some (.pointer _) => if pr then some f else none
        | some _ => if pr then none else some f
        | none => none
      | none => none) else none

def xcallee (P : Program) (ρ : Operand → Value) (o : Oper) : Option (FuncId × List Value) :=
  match o.op with
  | .call c => match c.callee with
    | .value f => match ρ f with
      | .func (.func g) first captured => if fnGoes P g then some (g, first.toList ++ c.args.toList.map ρ ++ captured.toList) else none
      | _ => none
    | .invoke r name => match ρ r with
      | .iface t v => match xmethod P t name with
        | some g => if fnGoes P g then some (g, v :: c.args.toList.map ρ) else none
        | none => none
      | _ => none
    | _ => none
  | _ => none

theorem callFunc_run {f : FuncId} (h : fnGoes P f = true) (args : Array Value) (w : World) : (callFunc f args).run P w = .ok (.enter f args) w := by
  unfold fnGoes at h
  unfold callFunc
  cases hf : P.funcs[f]? with
  | none => simp [hf] at h
  | some fn =>
    simp only [hf, Bool.and_eq_true, Bool.not_eq_true'] at h
    simp only [Sem.run_bind, run_program, Result.andThen_ok, hf, h.2, Bool.false_eq_true, if_false]
    have : fn.body.isNone = false := by cases hb : fn.body <;> simp_all
    simp [this]

theorem xcallee_run {o : Oper} {f : FuncId} {args : List Value} (hρ : OpsRel m ρ ρ' o) (h : xcallee P ρ o = some (f, args)) :
    ∃ args', LRel m args args' ∧ ∀ w, (execOp ρ' o).run P w = .ok (.enter f args'.toArray) w := by
  obtain ⟨dst, op, ty, pos, after, guard⟩ := o
  unfold OpsRel at hρ
  cases op with
  | call c =>
    obtain ⟨callee, as, argTypes⟩ := c
    have hargs : LRel m (as.toList.map ρ) (as.toList.map ρ') := LRel.map _ _ _ fun x hx => hρ x (by simp only [Op.operands, Call.operands]; exact Array.mem_append.2 (.inr (by simpa using hx)))
    simp only [xcallee] at h
    cases callee with
    | builtin b => simp at h
    | value f0 =>
      simp only at h
      have hf := hρ f0 (by simp [Op.operands, Call.operands])
      generalize ρ f0 = vf at *
      cases vf <;> (try simp only [] at h) <;> try (cases h; done)
      rename_i fn first captured
      cases fn <;> (try simp only [] at h) <;> try (cases h; done)
      rename_i g
      split at h
      · rename_i hg
        cases h
        obtain ⟨f', c', he, h1, h2⟩ := VRel.func_iff.1 hf
        refine ⟨f'.toList ++ as.toList.map ρ' ++ c'.toList, (h1.append hargs).append h2, fun w => ?_⟩
        simp only [execOp, resolve, he, Deferred.ofValue, Sem.run_bind, Sem.run_pure, Result.andThen_ok, invoke]
        rw [callFunc_run hg]
        congr 2
        apply Array.ext'
        simp
      · cases h
    | invoke r name =>
      simp only at h
      have hr := hρ r (by simp [Op.operands, Call.operands])
      generalize ρ r = vr at *
      generalize hq : ρ' r = vr' at *
      cases hr with
      | bool | int | string | nilptr | ptr | slice | nilslice | empty | nilmap | map | func | nilFunc | nilIface | agg | tuple => cases h
      | iface hv =>
        rename_i t v v'
        simp only at h
        cases hm : xmethod P t name with
        | none => simp [hm] at h
        | some g =>
          simp only [hm] at h
          split at h
          · rename_i hg
            cases h
            refine ⟨v' :: as.toList.map ρ', LRel.cons hv hargs, fun w => ?_⟩
            have hmeth : ∀ k, (method (k + 1) t v' name).run P w = .ok (f, v') w := by
              intro k
              unfold xmethod at hm
              cases hi : P.info? t with
              | none => simp [hi] at hm
              | some i =>
                simp only [hi] at hm
                cases hfm : i.methods.find? (·.name == name) with
                | none => simp [hfm] at hm
                | some mt =>
                  simp only [hfm] at hm
                  split at hm
                  · rename_i hp
                    have hp' : mt.path = #[] := Array.eq_empty_of_size_eq_zero hp
                    cases hfu : mt.func with
                    | none => simp [hfu] at hm
                    | some fp =>
                      obtain ⟨f2, pr⟩ := fp
                      simp only [hfu] at hm
                      unfold method
                      simp only [Sem.run_bind, typeInfo, run_program, Result.andThen_ok, hi, Sem.run_pure, hfm, hp', follow, hfu]
                      cases hu : P.underlying t with
                      | none => simp [hu] at hm
                      | some ud =>
                        cases ud <;> (try simp only [hu] at hm) <;> (split at hm <;> (first | (cases hm; done) | skip)) <;> rename_i hpr <;> cases hm <;> simp [receiverAt, run_underlying hu, hpr, Place.get]
                  · cases hm
            simp only [execOp, resolve, hq, Sem.run_bind, Sem.run_pure, Result.andThen_ok, invoke]
            have e0 : (#[Value.iface t v'] ++ as.map ρ')[0]? = some (.iface t v') := by rw [Array.getElem?_append]; simp
            simp only [e0, callMethod, Sem.run_bind, run_program, Result.andThen_ok, hmeth]
            rw [show P.types.size + Made.depth = (P.types.size + 99) + 1 from rfl, hmeth]
            simp only [Result.andThen_ok]
            rw [callFunc_run hg]
            congr 2
            apply Array.ext'
            simp
            exact List.take_of_length_le (by simp)
          · cases h
  | _ => simp [xcallee] at h
end
end Go.X
