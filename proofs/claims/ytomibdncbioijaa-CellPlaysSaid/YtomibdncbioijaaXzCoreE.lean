/- Every pure operation stands. -/
import Derived.Test.YtomibdncbioijaaXzCoreD
set_option linter.unusedVariables false
set_option linter.unusedSimpArgs false
namespace Go.X
open Go Go.RowKit

def OpsRel (m : Plan) (ρ ρ' : Operand → Value) (o : Oper) : Prop := ∀ x, x ∈ o.op.operands → VRel m (ρ x) (ρ' x)
def Pures (P : Program) (m : Plan) (ρ' : Operand → Value) (o : Oper) (v : Value) : Prop := ∃ v', VRel m v v' ∧ ∀ w, (execOp ρ' o).run P w = .ok (.value v') w

theorem OpRel.map {m : Plan} {ρ ρ' : Operand → Value} {o : Option Operand} (h : ∀ x, o = some x → VRel m (ρ x) (ρ' x)) : OpRel m (o.map ρ) (o.map ρ') := by
  cases o with
  | none => exact .inl ⟨rfl, rfl⟩
  | some x => exact .inr ⟨_, _, rfl, rfl, h x rfl⟩

section
variable {P : Program} {m : Plan} {ρ ρ' : Operand → Value} {v : Value} {dst : Option Tmp} {ty : TypeId} {pos : String} {after : Array Edge} {guard : Option (Nat × Bool)}

theorem pure_move {x : Operand} (h : VRel m (ρ x) (ρ' x)) : Pures P m ρ' ⟨dst, .move x, ty, pos, after, guard⟩ (ρ x) := ⟨_, h, fun _ => rfl⟩
theorem pure_assign {x : Operand} (h : VRel m (ρ x) (ρ' x)) : Pures P m ρ' ⟨dst, .assign x, ty, pos, after, guard⟩ (ρ x) := ⟨_, h, fun _ => rfl⟩

theorem Pures.of {o : Oper} {s : Sem Value} (he : execOp ρ' o = (do pure (.value (← s)))) {v' : Value} (hr : VRel m v v') (hs : ∀ w, s.run P w = .ok v' w) : Pures P m ρ' o v :=
  ⟨v', hr, fun w => by rw [he]; simp only [Sem.run_bind, hs, Result.andThen_ok, Sem.run_pure]⟩

theorem all_scal {l l' : List Value} (h : LRel m l l') (hs : l.all scal = true) : l' = l := by
  induction l generalizing l' with
  | nil => exact List.eq_nil_of_length_eq_zero h.1.symm
  | cons x l ih =>
    cases l' with
    | nil => have := h.1; simp at this
    | cons x' l' =>
      simp only [List.all_cons, Bool.and_eq_true] at hs
      rw [h.head.scal hs.1, ih h.tail hs.2]

theorem xpure_run {o : Oper} (hρ : OpsRel m ρ ρ' o) (h : xpure P ρ o = some v) : Pures P m ρ' o v := by
  obtain ⟨dst, op, ty, pos, after, guard⟩ := o
  unfold OpsRel at hρ
  cases op with
  | move x => simp only [xpure, Option.some.injEq] at h; subst h; exact pure_move (hρ x (by simp [Op.operands]))
  | assign x => simp only [xpure, Option.some.injEq] at h; subst h; exact pure_assign (hρ x (by simp [Op.operands]))
  | pick c a b =>
    have hc := hρ c (by simp [Op.operands]); have ha := hρ a (by simp [Op.operands]); have hb := hρ b (by simp [Op.operands])
    simp only [xpure] at h
    generalize ρ c = vc at *
    cases vc <;> (try simp only [] at h) <;> try (cases h; done)
    rename_i t
    cases h
    have e := VRel.bool_iff.1 hc
    refine ⟨if t then ρ' a else ρ' b, ?_, fun w => ?_⟩
    · cases t
      · exact hb
      · exact ha
    · simp only [execOp, e]
      cases t <;> simp [asBool]
  | nilCheck x =>
    have hx := hρ x (by simp [Op.operands])
    simp only [xpure] at h
    generalize hq : ρ x = vx at *
    generalize hq2 : ρ' x = vx' at *
    cases hx <;> (try simp only [] at h) <;> try (cases h; done)
    · cases h
      rename_i hb
      exact ⟨_, .ptr hb, fun w => by simp only [execOp]; rw [hq2]; rfl⟩
    · rename_i fn f f' c c' a1 a2 a3 a4
      cases fn <;> (try simp only [] at h) <;> try (cases h; done)
      cases h
      exact ⟨_, .func a1 a2 a3 a4, fun w => by simp only [execOp]; rw [hq2]; rfl⟩
    · cases h
      rename_i hr
      exact ⟨_, .iface hr, fun w => by simp only [execOp]; rw [hq2]; rfl⟩
  | binOp op t x y yt =>
    simp only [xpure] at h
    obtain ⟨v', hr, hs⟩ := xbin_run (hρ x (by simp [Op.operands])) (hρ y (by simp [Op.operands])) h
    exact Pures.of rfl hr hs
  | unOp op t x =>
    have hx := hρ x (by simp [Op.operands])
    simp only [xpure] at h
    split at h
    · rename_i hs
      have e := hx.scal hs
      exact Pures.of (s := Op.unary op (ρ' x)) rfl ((evS_run h).2 m) (by rw [e]; exact (evS_run h).1)
    · cases h
  | convert s d x =>
    have hx := hρ x (by simp [Op.operands])
    simp only [xpure] at h
    split at h
    · rename_i hs
      have e := hx.scal hs
      exact Pures.of (s := convert s d (ρ' x)) rfl ((evS_run h).2 m) (by rw [e]; exact (evS_run h).1)
    · cases h
  | makeInterface t x =>
    have hx := hρ x (by simp [Op.operands])
    simp only [xpure] at h
    cases hu : P.underlying t with
    | none => simp [hu] at h
    | some ud =>
      simp only [hu] at h
      refine Pures.of (s := Instr.makeInterface t (ρ' x)) (v' := .iface t (ρ' x)) rfl ?_ (fun w => ?_)
      · cases ud <;> (try simp only [] at h) <;> (try (cases h; done)) <;> (cases h; exact .iface hx)
      · simp only [Instr.makeInterface, Sem.run_bind, run_underlying hu, Result.andThen_ok]
        cases ud <;> first | rfl | cases h
  | makeFunc fn first captured =>
    simp only [xpure, Option.some.injEq] at h
    subst h
    exact Pures.of (s := Instr.makeFunc fn (first.map ρ') (captured.map ρ')) rfl
      (VRel.func_iff.2 ⟨_, _, rfl, rho_map _ fun x hx => hρ x (by simp only [Op.operands]; exact Array.mem_append.2 (.inl (by simpa using hx))), rho_map _ fun x hx => hρ x (by simp only [Op.operands]; exact Array.mem_append.2 (.inr (by simpa using hx)))⟩) (fun w => rfl)
  | extract t i =>
    have hx := hρ t (by simp [Op.operands])
    simp only [xpure] at h
    generalize ρ t = vx at *
    cases vx <;> (try simp only [] at h) <;> try (cases h; done)
    obtain ⟨c', e, hr⟩ := VRel.tuple_iff.1 hx
    obtain ⟨v', hv', hrel⟩ := hr.get (i := i) (v := v) (by simpa using h)
    exact Pures.of (s := Instr.extract (ρ' t) i) rfl hrel (fun w => by rw [e]; simp only [Instr.extract]; rw [show c'[i]? = some v' by simpa using hv']; rfl)
  | field t x f =>
    have hx := hρ x (by simp [Op.operands])
    simp only [xpure] at h
    cases hu : P.underlying t with
    | none => simp [hu] at h
    | some ud =>
      simp only [hu] at h
      cases ud <;> (try simp only [] at h) <;> try (cases h; done)
      rename_i fs
      generalize ρ x = vx at *
      cases vx <;> (try simp only [] at h) <;> try (cases h; done)
      obtain ⟨c', e, hr, h1⟩ := VRel.agg_iff.1 hx
      cases hf : fs[f]? with
      | none => simp [hf] at h
      | some fd =>
        simp only [hf] at h
        obtain ⟨v', hv', hrel⟩ := part_rel h hr h1
        exact Pures.of (s := Instr.field t (ρ' x) f) rfl hrel (fun w => by
          rw [e]; simp only [Instr.field, Sem.run_bind, run_underlying hu, Result.andThen_ok, hf, asAgg, Sem.run_pure, part_run hv'])
  | index t x ix =>
    have hx := hρ x (by simp [Op.operands]); have hi := hρ ix (by simp [Op.operands])
    simp only [xpure] at h
    cases hu : P.underlying t with
    | none => simp [hu] at h
    | some ud =>
      simp only [hu] at h
      cases ud <;> (try simp only [] at h) <;> try (cases h; done)
      · generalize ρ x = vx at *
        cases vx <;> (try simp only [] at h) <;> try (cases h; done)
        rename_i s
        generalize ρ ix = vi at *
        cases vi <;> (try simp only [] at h) <;> try (cases h; done)
        rename_i k i
        split at h
        · rename_i h0
          obtain ⟨b, hb, rfl⟩ := Option.map_eq_some_iff.1 h
          exact Pures.of (s := Instr.index t (ρ' x) (ρ' ix)) rfl (.int _ _) (fun w => by
            rw [VRel.string_iff.1 hx, VRel.int_iff.1 hi]
            simp only [Instr.index, asIntOf, Sem.run_bind, Sem.run_pure, run_underlying hu, Result.andThen_ok, h0, if_true, hb])
        · cases h
      · rename_i n e
        generalize ρ x = vx at *
        cases vx <;> (try simp only [] at h) <;> try (cases h; done)
        generalize ρ ix = vi at *
        cases vi <;> (try simp only [] at h) <;> try (cases h; done)
        rename_i k i
        split at h
        · rename_i h0
          obtain ⟨c', e', hr, h1⟩ := VRel.agg_iff.1 hx
          cases hf : P.info? e with
          | none => simp [hf] at h
          | some inf =>
            simp only [hf] at h
            obtain ⟨v', hv', hrel⟩ := part_rel h hr h1
            exact Pures.of (s := Instr.index t (ρ' x) (ρ' ix)) rfl hrel (fun w => by
              rw [e', VRel.int_iff.1 hi]
              simp only [Instr.index, asIntOf, Sem.run_bind, Sem.run_pure, run_underlying hu, Result.andThen_ok, h0, and_self, if_true, sizeOf, typeInfo, run_program, hf, part_run hv'])
        · cases h
  | fieldAddr t x f =>
    have hx := hρ x (by simp [Op.operands])
    simp only [xpure] at h
    cases hu : P.underlying t with
    | none => simp [hu] at h
    | some ud =>
      simp only [hu] at h
      cases ud <;> (try simp only [] at h) <;> try (cases h; done)
      rename_i fs
      generalize ρ x = vx at *
      generalize hq : ρ' x = vx' at *
      cases hx with
      | bool | int | string | nilptr | nilslice | slice | empty | nilmap | map | func | nilFunc | nilIface | iface | agg | tuple => simp at h
      | ptr hb =>
        rename_i b o e
        simp only at h
        cases hf : fs[f]? with
        | none => simp [hf] at h
        | some fd =>
          simp only [hf] at h
          cases hinf : P.info? fd.type with
          | none => simp [hinf] at h
          | some inf =>
            simp only [hinf] at h
            split at h
            · cases h
            · rename_i h0
              cases h
              exact Pures.of (s := Instr.fieldAt t (ρ' x) f) rfl (.ptr hb) (fun w => by
                rw [hq]
                simp only [Instr.fieldAt, Sem.run_bind, run_underlying hu, Result.andThen_ok, hf, Instr.sureAddr, Sem.run_pure, fieldPlace, sizeOf, typeInfo, run_program, hinf, Sem.run_ite, h0, if_false, add_add])
  | indexAddr t x ix =>
    have hx := hρ x (by simp [Op.operands]); have hi := hρ ix (by simp [Op.operands])
    simp only [xpure] at h
    cases hu : P.underlying t with
    | none => simp [hu] at h
    | some ud =>
      simp only [hu] at h
      cases ud <;> (try simp only [] at h) <;> try (cases h; done)
      · rename_i e
        generalize ρ x = vx at *
        generalize hq : ρ' x = vx' at *
        cases hx with
        | bool | int | string | nilptr | ptr | nilslice | empty | nilmap | map | func | nilFunc | nilIface | iface | agg | tuple => simp at h
        | slice hb a1 a2 a3 a4 =>
          rename_i b o n c c' en
          try simp only at h
          generalize ρ ix = vi at *
          cases vi <;> (try simp only [] at h) <;> try (cases h; done)
          rename_i k i
          split at h
          · rename_i h0
            obtain ⟨inf, hinf, rfl⟩ := Option.map_eq_some_iff.1 h
            exact Pures.of (s := Instr.indexAt t (ρ' x) (ρ' ix)) rfl (.ptr hb) (fun w => by
              rw [hq, VRel.int_iff.1 hi]
              simp only [Instr.indexAt, asIntOf, Sem.run_bind, Sem.run_pure, run_underlying hu, Result.andThen_ok, h0, and_self, if_true, sizeOf, typeInfo, run_program, hinf, add_add])
          · cases h
      · rename_i n e
        generalize ρ x = vx at *
        generalize hq : ρ' x = vx' at *
        cases hx with
        | bool | int | string | nilptr | slice | nilslice | empty | nilmap | map | func | nilFunc | nilIface | iface | agg | tuple => simp at h
        | ptr hb =>
          rename_i b o en
          try simp only at h
          generalize ρ ix = vi at *
          cases vi <;> (try simp only [] at h) <;> try (cases h; done)
          rename_i k i
          split at h
          · rename_i h0
            obtain ⟨inf, hinf, rfl⟩ := Option.map_eq_some_iff.1 h
            exact Pures.of (s := Instr.indexAt t (ρ' x) (ρ' ix)) rfl (.ptr hb) (fun w => by
              rw [hq, VRel.int_iff.1 hi]
              simp only [Instr.indexAt, asIntOf, Sem.run_bind, Sem.run_pure, run_underlying hu, Result.andThen_ok, h0, and_self, if_true, sizeOf, typeInfo, run_program, hinf, add_add, Instr.sureAddr])
          · cases h
  | slice t x lo hi mx =>
    have hx := hρ x (by simp [Op.operands])
    have hlo : OpRel m (lo.map ρ) (lo.map ρ') := OpRel.map fun y hy => hρ y (by subst hy; simp [Op.operands])
    have hhi : OpRel m (hi.map ρ) (hi.map ρ') := OpRel.map fun y hy => hρ y (by subst hy; simp [Op.operands])
    have hmx : OpRel m (mx.map ρ) (mx.map ρ') := OpRel.map fun y hy => hρ y (by subst hy; simp [Op.operands])
    simp only [xpure] at h
    cases hu : P.underlying t with
    | none => simp [hu] at h
    | some ud =>
      simp only [hu] at h
      cases ud <;> (try simp only [] at h) <;> try (cases h; done)
      · generalize ρ x = vx at *
        cases vx <;> (try simp only [] at h) <;> try (cases h; done)
        rename_i s
        cases hl : boundOf 0 (lo.map ρ) with
        | none => simp [hl] at h
        | some l =>
          cases hh : boundOf s.size (hi.map ρ) with
          | none => simp [hl, hh] at h
          | some hb =>
            cases mx with
            | some q => simp [hl, hh] at h
            | none =>
              simp only [hl, hh] at h
              split at h
              · rename_i hz
                cases h
                have bl := hlo.bound hl
                have bh := hhi.bound hh
                have hb2 := fun w => run_sliceBounds2 (P := P) (isS := false) (len := s.size) (cap := s.size) (lo := lo.map ρ') (hi := hi.map ρ') (l := l) (h := hb)
                  (by rcases bl with ⟨a, _, b⟩ | ⟨k, n, a, _, c, d⟩; exact .inl ⟨a, b⟩; exact .inr ⟨k, n, a, c, d⟩)
                  (by rcases bh with ⟨a, _, b⟩ | ⟨k, n, a, _, c, d⟩; exact .inl ⟨a, b⟩; exact .inr ⟨k, n, a, c, d⟩) hz.1 hz.2 w
                exact Pures.of (s := Instr.sliceAt t (ρ' x) (lo.map ρ') (hi.map ρ') none) rfl (.string _) (fun w => by
                  rw [VRel.string_iff.1 hx]
                  simp only [Instr.sliceAt, Instr.slice, Sem.run_bind, run_underlying hu, Result.andThen_ok, hb2, Option.isSome_none, Bool.false_eq_true, if_false, Sem.run_pure])
              · cases h
      · rename_i e
        cases hinf : P.info? e with
        | none => simp [hinf] at h
        | some inf =>
          simp only [hinf] at h
          obtain ⟨v', hr, hs⟩ := xslice_run hu hinf hx hlo hhi hmx h
          exact Pures.of (s := Instr.sliceAt t (ρ' x) (lo.map ρ') (hi.map ρ') (mx.map ρ')) rfl hr (fun w => by
            simp only [Instr.sliceAt, Sem.run_bind, run_underlying hu, Result.andThen_ok]; exact hs w)
      · rename_i n e
        cases hinf : P.info? e with
        | none => simp [hinf] at h
        | some inf =>
          simp only [hinf] at h
          generalize ρ x = vx at *
          generalize hq : ρ' x = vx' at *
          cases hx with
          | bool | int | string | nilptr | slice | nilslice | empty | nilmap | map | func | nilFunc | nilIface | iface | agg | tuple => simp at h
          | ptr hb =>
            rename_i b o en
            try simp only at h
            cases hl : boundOf 0 (lo.map ρ) with
            | none => simp [hl] at h
            | some l =>
              cases hh : boundOf n (hi.map ρ) with
              | none => simp [hl, hh] at h
              | some hb' =>
                cases mx with
                | some q => simp [hl, hh] at h
                | none =>
                  simp only [hl, hh] at h
                  split at h
                  · rename_i hz
                    cases h
                    have bl := hlo.bound hl
                    have bh := hhi.bound hh
                    have hb2 := fun w => run_sliceBounds2 (P := P) (isS := false) (len := n) (cap := n) (lo := lo.map ρ') (hi := hi.map ρ') (l := l) (h := hb')
                      (by rcases bl with ⟨a, _, b⟩ | ⟨k, n, a, _, c, d⟩; exact .inl ⟨a, b⟩; exact .inr ⟨k, n, a, c, d⟩)
                      (by rcases bh with ⟨a, _, b⟩ | ⟨k, n, a, _, c, d⟩; exact .inl ⟨a, b⟩; exact .inr ⟨k, n, a, c, d⟩) hz.1 hz.2.1 w
                    exact Pures.of (s := Instr.sliceAt t (ρ' x) (lo.map ρ') (hi.map ρ') none) (v' := .slice (some (en.a.add (o + l * inf.size))) (hb' - l) (n - l)) rfl
                      (.slice hb (by omega) (by unfold maxLen; omega) (by omega) (fun _ => rfl)) (fun w => by
                      rw [hq]
                      simp only [Instr.sliceAt, Sem.run_bind, run_underlying hu, Result.andThen_ok, hb2, Instr.sureAddr, Sem.run_pure, sizeOf, typeInfo, run_program, hinf]
                      rw [if_neg (by omega), add_add])
                  · cases h
  | typeAssert x xt asserted ok =>
    have hx := hρ x (by simp [Op.operands])
    simp only [xpure] at h
    have zero : ∀ (inf : TypeInfo), P.info? asserted = some inf → ∀ z, inf.zero = some z → plainB 9 z = true → v = .tuple #[z, .bool false] →
        ∃ v', VRel m v v' ∧ ∀ w, (do pure (.tuple #[← zeroValue asserted, .bool false]) : Sem Value).run P w = .ok v' w := by
      intro inf hinf z hz hp hv
      subst hv
      refine ⟨_, VRel.tuple_iff.2 ⟨_, rfl, LRel.cons ((plainB_rel 9 z hp).rel m) (LRel.cons (.bool false) (LRel.nil m))⟩, fun w => ?_⟩
      simp only [Sem.run_bind, zeroValue, typeInfo, run_program, hinf, Result.andThen_ok, Sem.run_pure, hz]
    cases hu : P.underlying asserted with
    | none => simp [hu] at h
    | some ud =>
      simp only [hu] at h
      generalize ρ x = vx at *
      generalize hq : ρ' x = vx' at *
      cases hx with
      | bool | int | string | nilptr | ptr | slice | nilslice | empty | nilmap | map | func | nilFunc | agg | tuple => cases ud <;> simp at h
      | nilIface =>
        cases ok with
        | false => cases ud <;> simp at h
        | true =>
          cases hinf : P.info? asserted with
          | none => cases ud <;> simp [hinf] at h
          | some inf =>
            have h' : ∃ z, inf.zero = some z ∧ plainB 9 z = true ∧ v = .tuple #[z, .bool false] := by
              cases hz : inf.zero with
              | none => cases ud <;> simp [hinf, hz] at h
              | some z =>
                by_cases hp : plainB 9 z = true
                · refine ⟨z, rfl, hp, ?_⟩
                  cases ud <;> simp [hinf, hz, hp] at h <;> exact h.symm
                · cases ud <;> simp [hinf, hz, hp] at h
            obtain ⟨z, hz, hp, hv⟩ := h'
            obtain ⟨v', hr, hs⟩ := zero inf hinf z hz hp hv
            refine Pures.of (s := Instr.typeAssert (ρ' x) xt asserted true) rfl hr (fun w => ?_)
            rw [hq]
            simp only [Instr.typeAssert, Sem.run_bind, run_underlying hu, Result.andThen_ok]
            cases ud <;> first | (simp at h; done) | (simpa using hs w)
      | iface hr =>
        rename_i t a a'
        by_cases hta : t = asserted
        · subst hta
          have h' : v = if ok then .tuple #[a, .bool true] else a := by cases ud <;> simp at h; all_goals exact h.symm
          refine Pures.of (s := Instr.typeAssert (ρ' x) xt t ok) (v' := if ok then .tuple #[a', .bool true] else a') rfl ?_ (fun w => ?_)
          · subst h'
            cases ok
            · exact hr
            · exact VRel.tuple_iff.2 ⟨_, rfl, LRel.cons hr (LRel.cons (.bool true) (LRel.nil m))⟩
          · rw [hq]
            simp only [Instr.typeAssert, Sem.run_bind, run_underlying hu, Result.andThen_ok]
            cases ud <;> first | (simp at h; done) | simp
        · cases ok with
          | false => cases ud <;> simp [hta] at h
          | true =>
            cases hinf : P.info? asserted with
            | none => cases ud <;> simp [hinf, hta] at h
            | some inf =>
              have h' : ∃ z, inf.zero = some z ∧ plainB 9 z = true ∧ v = .tuple #[z, .bool false] := by
                cases hz : inf.zero with
                | none => cases ud <;> simp [hinf, hz, hta] at h
                | some z =>
                  by_cases hp : plainB 9 z = true
                  · refine ⟨z, rfl, hp, ?_⟩
                    cases ud <;> simp [hinf, hz, hp, hta] at h <;> exact h.symm
                  · cases ud <;> simp [hinf, hz, hp, hta] at h
              obtain ⟨z, hz, hp, hv⟩ := h'
              obtain ⟨v', hr', hs⟩ := zero inf hinf z hz hp hv
              refine Pures.of (s := Instr.typeAssert (ρ' x) xt asserted true) rfl hr' (fun w => ?_)
              rw [hq]
              simp only [Instr.typeAssert, Sem.run_bind, run_underlying hu, Result.andThen_ok]
              cases ud <;> first | (simp at h; done) | (simpa [hta] using hs w)
  | call c =>
    obtain ⟨callee, args, argTypes⟩ := c
    simp only [xpure] at h
    have hargs : LRel m (args.toList.map ρ) (args.toList.map ρ') := LRel.map _ _ _ fun x hx => hρ x (by simp only [Op.operands, Call.operands]; exact Array.mem_append.2 (.inr (by simpa using hx)))
    cases callee with
    | value f => simp at h
    | invoke r n => simp at h
    | builtin b =>
      have key : ∀ (s : Sem Value), (∀ w, (builtin b argTypes ty (args.map fun | .const _ => true | _ => false) (args.map ρ')).run P w = (do pure (.value (← s)) : Sem Next).run P w) → ∀ v', VRel m v v' → (∀ w, s.run P w = .ok v' w) → Pures P m ρ' ⟨dst, .call ⟨.builtin b, args, argTypes⟩, ty, pos, after, guard⟩ v := by
        intro s hb v' hr hs
        refine ⟨v', hr, fun w => ?_⟩
        have := hb w
        simp only [Sem.run_bind, hs, Result.andThen_ok, Sem.run_pure] at this
        simp only [execOp, resolve, Sem.run_bind, Sem.run_pure, Result.andThen_ok, invoke]
        exact this
      cases b <;> (try simp only [] at h) <;> try (cases h; done)
      case len =>
        refine key (Builtin.len_ argTypes ty (args.map ρ')) (fun w => rfl) v ?_ ?_
        · split at h <;> first | (cases h; exact .int _ _) | cases h
        · intro w
          have e0 : (args.map ρ')[0]? = (args.toList.map ρ')[0]? := by simp
          split at h
          · rename_i hT hA
            cases h
            rw [hA] at hargs
            obtain ⟨x', hx', hr⟩ := hargs.get (i := 0) rfl
            obtain ⟨t, ht, htu⟩ := Option.bind_eq_some_iff.1 hT
            unfold Builtin.len_
            rw [e0, hx', ht]
            cases hr <;> simp [run_underlying htu, goInt]
          · rename_i hT hA
            cases h
            rw [hA] at hargs
            obtain ⟨x', hx', hr⟩ := hargs.get (i := 0) rfl
            obtain ⟨t, ht, htu⟩ := Option.bind_eq_some_iff.1 hT
            unfold Builtin.len_
            rw [e0, hx', ht]
            cases hr <;> simp [run_underlying htu, goInt]
          · rename_i hT hA
            cases h
            rw [hA] at hargs
            obtain ⟨x', hx', hr⟩ := hargs.get (i := 0) rfl
            obtain ⟨t, ht, htu⟩ := Option.bind_eq_some_iff.1 hT
            unfold Builtin.len_
            rw [e0, hx', ht]
            simp [run_underlying htu, goInt]
          · cases h
      case max =>
        split at h
        · rename_i hs
          have e : args.map ρ' = args.map ρ := Array.toList_inj.1 (by simpa using all_scal hargs hs)
          exact key (Builtin.max_ argTypes ty (args.map ρ')) (fun w => rfl) v ((evS_run h).2 m) (by rw [e]; exact (evS_run h).1)
        · cases h
      case min =>
        split at h
        · rename_i hs
          have e : args.map ρ' = args.map ρ := Array.toList_inj.1 (by simpa using all_scal hargs hs)
          exact key (Builtin.min_ argTypes ty (args.map ρ')) (fun w => rfl) v ((evS_run h).2 m) (by rw [e]; exact (evS_run h).1)
        · cases h
  | _ => simp [xpure] at h
end
end Go.X
