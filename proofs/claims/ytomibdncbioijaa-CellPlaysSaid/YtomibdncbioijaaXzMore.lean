/- More operations, short to print: results that lie in memory; clear; interfaces held against a type. -/
import Derived.Test.YtomibdncbioijaaXzDraw
set_option linter.unusedVariables false
set_option linter.unusedSimpArgs false
namespace Go.X
open Go Go.RowKit

section
variable {P : Program} {good : Nat → Bool} {fn : Func} {s : List It} {ts : Ts} {H H' : Heap} {r : Value × Heap} {ops : Array Oper} {i : Nat} {v : Value}

/-! #### results -/
inductive Res (P : Program) (ts : Ts) (H : Heap) : List ResultVar → List Value → Prop where
  | nil : Res P ts H [] []
  | tmp {t : Tmp} {v : Value} {l : List ResultVar} {vs : List Value} : ts.getD t undef = v → Res P ts H l vs → Res P ts H (.tmp t :: l) (v :: vs)
  | cell {a : Tmp} {t : TypeId} {b off : Nat} {v : Value} {l : List ResultVar} {vs : List Value} : (addrOf (ts.getD a undef), scalT P t) = (some (b, off), true) → ldc H b off = some v → Res P ts H l vs → Res P ts H (.cell a t :: l) (v :: vs)
  | cellA {a : Tmp} {t : TypeId} {b off : Nat} {us : List Value} {l : List ResultVar} {vs : List Value} : (addrOf (ts.getD a undef), aggT P t us.length, Nat.blt 0 us.length) = (some (b, off), true, true) → ldAll H b off us → Res P ts H l vs → Res P ts H (.cell a t :: l) (.agg us.toArray :: vs)
theorem loadOf_scal {t : TypeId} {cs : List Value} {o : Nat} (h : scalT P t = true) : loadOf P t cs o = cs[o]? := by
  unfold scalT at h
  unfold loadOf
  cases hu : P.underlying t with
  | none => rw [hu] at h; cases h
  | some ud => rw [hu] at h; cases ud <;> first | rfl | cases h
theorem Res.eq {l : List ResultVar} {vs : List Value} (h : Res P ts H l vs) : xresL P ts H l = some vs := by
  induction h with
  | nil => rfl
  | tmp h1 _ ih => simp only [xresL, xres1, h1, ih]
  | cell h1 h2 _ ih =>
    simp only [Prod.mk.injEq] at h1
    rw [xresL, ih]
    unfold ldc at h2
    simp only [xres1, addrOf_eq h1.1]
    cases hg : H.get _ with
    | row cs own => rw [hg] at h2; simp only [loadOf_scal h1.2, h2]
    | dead => rw [hg] at h2; cases h2
    | map es => rw [hg] at h2; cases h2
  | cellA h1 h2 _ ih =>
    rename_i a t b off us l vs _
    simp only [Prod.mk.injEq] at h1
    obtain ⟨h0, ht, hp⟩ := h1
    rw [Nat.blt_eq] at hp
    rw [xresL, ih]
    have hop : xread P (rho ts) H ⟨none, .load t (.tmp a), 0, "", #[], none⟩ = some (.agg us.toArray) := op_loadA (o := ⟨none, .load t (.tmp a), 0, "", #[], none⟩) rfl ht rfl hp (addrOf_eq h0) h2
    simp only [xread, rho, addrOf_eq h0] at hop
    simp only [xres1, addrOf_eq h0]
    cases hg : H.get b with
    | row cs own => rw [hg] at hop; simp only at hop; simp only [hop]
    | dead => rw [hg] at hop; cases hop
    | map es => rw [hg] at hop; cases hop
theorem KR.finR {l : List ResultVar} {vs : List Value} (hl : fn.results.toList = l) (hR : Res P ts H l vs) (hv : tupled vs = v) (h : r = (v, H)) : KR P good fn (.code .ret :: s) ts H r :=
  KR.fin (v := v) (by unfold xresults; rw [hl, hR.eq]; simp [hv]) h
theorem KR.finR0 {l : List ResultVar} {vs : List Value} (hl : fn.results.toList = l) (hR : Res P ts H l vs) (hv : tupled vs = v) (h : r = (v, H)) : KR P good fn [] ts H r :=
  KR.fin0 (v := v) (by unfold xresults; rw [hl, hR.eq]; simp [hv]) h

/-! #### a type asserted that is another one -/
def taChk (P : Program) (ops : Array Oper) (i : Nat) (ts : Ts) (t : TypeId) : Option (TypeId × Value) :=
  (want ops i ts).bind fun o => match o.op with
  | .typeAssert x _ asserted true => match P.underlying asserted, rho ts x with
    | some (.interface _), _ => none
    | some _, .iface t' _ => bif Nat.beq t asserted then (match P.info? asserted with
          | some inf => match inf.zero with
            | some z => if plainB 9 z then some (t', .tuple #[z, .bool false]) else none
            | none => none
          | none => none) else none
    | _, _ => none
  | _ => none
theorem one_ta {t t' : TypeId} (hx : taChk P ops i ts t = some (t', v)) (h : ¬t' = t) : POne P ops i ts v := by
  obtain ⟨o, hw, hh⟩ := Option.bind_eq_some_iff.1 hx
  obtain ⟨h1, h2⟩ := want_some hw
  obtain ⟨dst, op, ty, pos, after, guard⟩ := o
  cases op <;> simp only at hh <;> try (cases hh; done)
  rename_i x st asserted ok
  cases ok with
  | false => cases hh
  | true =>
    refine ⟨_, h1, h2, rfl, ?_⟩
    simp only [xP, xpure]
    simp only at hh
    cases hu : P.underlying asserted with
    | none => rw [hu] at hh; cases hh
    | some ud =>
      rw [hu] at hh
      cases hv : rho ts x <;> rw [hv] at hh <;> cases ud <;> try (cases hh; done)
      all_goals
        simp only at hh ⊢
        cases hb : Nat.beq t asserted with
        | false => rw [hb] at hh; cases hh
        | true =>
          have : t = asserted := Nat.eq_of_beq_eq_true hb
          subst this
          rw [hb] at hh
          simp only [cond_true] at hh
          cases hi : P.info? t with
          | none => rw [hi] at hh; cases hh
          | some inf =>
            cases hz : inf.zero with
            | none => simp only [hi, hz] at hh; cases hh
            | some z =>
              simp only [hi, hz] at hh ⊢
              split at hh
              · cases hh
                rw [if_neg h]
                simp_all
              · cases hh

/-! #### clear -/
def clrChk (P : Program) (ops : Array Oper) (i : Nat) (ts : Ts) : Option (List Value × Option Addr × Nat × Nat) :=
  (want ops i ts).bind fun o => match o.op with
  | .call ⟨.builtin .clear, xs, us⟩ => match xs.toList, us.toList with
    | [x], [t] => match P.underlying t with
      | some (.slice e) => match P.info? e with
        | some i => match i.zero with
          | some z => bif plainB 9 z && notTuple z && Nat.blt 0 z.cells.size then (asSl (rho ts x)).map fun a => (z.cells.toList, a) else none
          | none => none
        | none => none
      | _ => none
    | _, _ => none
  | _ => none
theorem one_cl {z : List Value} {a : Option Addr} {n c : Nat} (hx : clrChk P ops i ts = some (z, a, n, c)) (hv : pclear H z a n c = some H') : SOne P good ops i ts H undef H' := by
  obtain ⟨o, hw, h⟩ := Option.bind_eq_some_iff.1 hx
  obtain ⟨h1, h2⟩ := want_some hw
  obtain ⟨dst, op, ty, pos, after, guard⟩ := o
  cases op <;> simp only at h <;> try (cases h; done)
  rename_i cl
  obtain ⟨cal, xs, us⟩ := cl
  cases cal with
  | value f => cases h
  | invoke r m => cases h
  | builtin b =>
    cases b <;> simp only at h <;> try (cases h; done)
    refine ⟨_, h1, h2, .inl ⟨rfl, ?_⟩⟩
    simp only [xser]
    cases hxs : xs.toList with
    | nil => rw [hxs] at h; cases h
    | cons x xs' => cases xs' with
      | cons y xs'' => rw [hxs] at h; cases us.toList <;> cases h
      | nil => cases hus : us.toList with
        | nil => rw [hxs, hus] at h; cases h
        | cons t us' => cases us' with
          | cons y us'' => rw [hxs, hus] at h; cases h
          | nil =>
            rw [hxs, hus] at h
            simp only at h ⊢
            cases hu : P.underlying t with
            | none => rw [hu] at h; cases h
            | some ud =>
              cases ud <;> rw [hu] at h <;> try (cases h; done)
              rename_i e
              simp only at h ⊢
              cases hi : P.info? e with
              | none => rw [hi] at h; cases h
              | some inf =>
                cases hz : inf.zero with
                | none => simp only [hi, hz] at h; cases h
                | some zz =>
                  simp only [hi, hz] at h ⊢
                  cases hp : plainB 9 zz && notTuple zz && Nat.blt 0 zz.cells.size with
                  | false => rw [hp] at h; cases h
                  | true =>
                    rw [hp] at h
                    simp only [Bool.and_eq_true, Nat.blt_eq] at hp
                    obtain ⟨y, hy, he⟩ := Option.map_eq_some_iff.1 h
                    obtain ⟨a', n', c'⟩ := y
                    cases he
                    rw [if_pos ⟨hp.1.1, hp.1.2, hp.2⟩, asSl_eq hy]
                    unfold pclear at hv
                    rw [hv]
                    rfl
end
end Go.X
