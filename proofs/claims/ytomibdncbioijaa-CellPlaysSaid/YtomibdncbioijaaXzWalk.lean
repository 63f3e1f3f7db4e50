/- Steps of a walk, short to print: a stretch at once, a branch, an operation with its open part. -/
import Derived.Test.YtomibdncbioijaaXzStep
set_option linter.unusedVariables false
set_option linter.unusedSimpArgs false
namespace Go.X
open Go Go.RowKit

/-! ### temps: what is known of them, over whatever the others hold -/
def look : List (Nat × Value) → Nat → Value → Value
  | [], _, d => d
  | x :: l, t, d => bif Nat.beq x.1 t then x.2 else look l t d
def mat (J : Nat → Value) (n : Nat) (al : List (Nat × Value)) : Ts := (List.range n).map fun t => look al t (J t)
theorem mat_length (J : Nat → Value) (n : Nat) (al : List (Nat × Value)) : (mat J n al).length = n := by simp [mat]
theorem look_get (ts : Ts) : ∀ (l : List (Nat × Value)) (t : Nat), (l.map fun p => (p.1, ts.getD p.1 undef)) = l → look l t (ts.getD t undef) = ts.getD t undef := by
  intro l
  induction l with
  | nil => intro t _; rfl
  | cons x l ih =>
    intro t h
    simp only [List.map_cons, List.cons.injEq] at h
    obtain ⟨h1, h2⟩ := h
    unfold look
    cases hb : Nat.beq x.1 t with
    | true =>
      have : x.1 = t := Nat.eq_of_beq_eq_true hb
      subst this
      simp only [cond_true]
      rw [← h1]
    | false => simp only [cond_false]; exact ih t h2
theorem mat_of (ts : Ts) (al : List (Nat × Value)) (h : (al.map fun p => (p.1, ts.getD p.1 undef)) = al) : mat (fun t => ts.getD t undef) ts.length al = ts := by
  refine List.ext_getElem (by simp [mat]) fun i h1 h2 => ?_
  simp only [mat, List.getElem_map, List.getElem_range]
  rw [look_get ts al i h]
  simp [List.getD, h2]

section
variable {P : Program} {good : Nat → Bool} {fn : Func} {s s' : List It} {ts : Ts} {H H' : Heap} {r : Value × Heap} {ops : Array Oper} {i : Nat} {l : List Nat} {v : Value}

def seen (al : List (Nat × Value)) (x : List It × Ts × Heap) : List It × Nat × List (Nat × Value) × Heap := (x.1, x.2.1.length, al.map (fun p => (p.1, x.2.1.getD p.1 undef)), x.2.2)
theorem KR.run (n : Nat) (al : List (Nat × Value)) (N : Nat) (h : (mrun P n s ts H).map (seen al) = some (s', N, al, H)) (hk : ∀ J, KR P good fn s' (mat J N al) H r) : KR P good fn s ts H r := by
  obtain ⟨x, hx, he⟩ := Option.map_eq_some_iff.1 h
  obtain ⟨s1, ts1, H1⟩ := x
  simp only [seen, Prod.mk.injEq] at he
  obtain ⟨rfl, rfl, h3, h4⟩ := he
  subst h4
  refine mrun_KR n hx ?_
  have := hk fun t => ts1.getD t undef
  rwa [mat_of ts1 al h3] at this

def brChk (ts : Ts) : Code → Option Bool
  | .cond c _ _ => match rho ts c with
    | .bool e => some e
    | _ => none
  | _ => none
theorem KR.br {c : Code} {e : Bool} (t : Bool) (hx : brChk ts c = some e) (he : e = t) (h : KR P good fn (.code (child (bif t then 0 else 1) c) :: s) ts H r) : KR P good fn (.code c :: s) ts H r := by
  subst he
  cases c <;> simp only [brChk] at hx <;> try (cases hx; done)
  rename_i o a b
  cases hv : rho ts o <;> simp only [hv] at hx <;> try (cases hx; done)
  cases hx
  refine KR.cond hv ?_
  cases e <;> exact h
theorem KR.setV (d : Nat) {v w : Value} (hx : ts.getD d undef = v) (he : v = w) (h : KR P good fn s (ts.set d w) H r) : KR P good fn s ts H r := by
  subst he; subst hx
  have : ts.set d (ts.getD d undef) = ts := by
    refine List.ext_getElem (by simp) fun j h1 h2 => ?_
    rw [List.getElem_set]
    split
    · rename_i hj; subst hj; simp [List.getD, h2]
    · rfl
  rwa [this] at h
theorem KR.fin {v : Value} (hx : xresults P fn ts H = some v) (h : r = (v, H)) : KR P good fn (.code .ret :: s) ts H r := KR.ret ⟨by rw [h]; exact hx, by rw [h]⟩
theorem KR.fin0 {v : Value} (hx : xresults P fn ts H = some v) (h : r = (v, H)) : KR P good fn [] ts H r := KR.nil ⟨by rw [h]; exact hx, by rw [h]⟩
theorem KR.enter {f : FuncId} {args : List Value} {c : Code} (hg : good f = true) (hf : (P.funcs[f]?).map (fun fn => (fn, fn.body)) = some (fn, some c)) (h : KR P good fn [.code c] (initTs fn args) H r) : xC P good f args H = some r := by
  obtain ⟨fn', h1, h2⟩ := Option.map_eq_some_iff.1 hf
  simp only [Prod.mk.injEq] at h2
  obtain ⟨rfl, h3⟩ := h2
  exact KR.call hg h1 h3 h

theorem iteT {p : Prop} [Decidable p] {A B : Prop} (c : p) (h : if p then A else B) : A := by rwa [if_pos c] at h
theorem iteF {p : Prop} [Decidable p] {A B : Prop} (c : ¬p) (h : if p then A else B) : B := by rwa [if_neg c] at h
theorem bT {b : Bool} (h : b = true) : Value.bool b = .bool true := by rw [h]
theorem bF {b : Bool} (h : ¬b = true) : Value.bool b = .bool false := by rw [Bool.eq_false_iff.2 h]
theorem dT {p : Prop} [Decidable p] (h : p) : Value.bool (decide p) = .bool true := by rw [decide_eq_true h]
theorem dF {p : Prop} [Decidable p] (h : ¬p) : Value.bool (decide p) = .bool false := by rw [decide_eq_false h]
theorem eT {α : Type} [BEq α] [LawfulBEq α] {a b : α} (h : a = b) : Value.bool (a == b) = .bool true := by rw [h, beq_self_eq_true]
theorem eF {α : Type} [BEq α] [LawfulBEq α] {a b : α} (h : ¬a = b) : Value.bool (a == b) = .bool false := by rw [beq_eq_false_iff_ne.2 h]
def strC (l : List UInt8) : ByteArray := ⟨l.toArray⟩
abbrev strZ : ByteArray := strC []
theorem vB {b t : Bool} (h : Value.bool b = .bool t) : b = t := by cases h; rfl
theorem nB {b t : Bool} (h : Value.bool b = .bool t) : Value.bool (!b) = .bool (!t) := by cases h; rfl

/-! ### one operation -/
structure POne (P : Program) (ops : Array Oper) (i : Nat) (ts : Ts) (v : Value) : Prop where
  ex : ∃ o, ops[i]? = some o ∧ Region.wanted o (yieldedL ops ts) = true ∧ clsOf P o = .P ∧ xP P (rho ts) o = some v
structure ROne (P : Program) (ops : Array Oper) (i : Nat) (ts : Ts) (H : Heap) (v : Value) : Prop where
  ex : ∃ o, ops[i]? = some o ∧ Region.wanted o (yieldedL ops ts) = true ∧ clsOf P o = .R ∧ xread P (rho ts) H o = some v
structure AOne (P : Program) (ops : Array Oper) (i : Nat) (ts : Ts) (w : NewRow) : Prop where
  ex : ∃ o, ops[i]? = some o ∧ Region.wanted o (yieldedL ops ts) = true ∧ clsOf P o = .A ∧ xalloc P (rho ts) o = some w
structure SOne (P : Program) (good : Nat → Bool) (ops : Array Oper) (i : Nat) (ts : Ts) (H : Heap) (v : Value) (H' : Heap) : Prop where
  ex : ∃ o, ops[i]? = some o ∧ Region.wanted o (yieldedL ops ts) = true ∧ ((clsOf P o = .S ∧ xser P (rho ts) H o = some (v, H')) ∨ (clsOf P o = .C ∧ ∃ f args, xcallee P (rho ts) o = some (f, args) ∧ xC P good f args H = some (v, H')))

theorem dstOf_some {o : Oper} (h : ops[i]? = some o) : dstOf ops i = o.dst := by unfold dstOf; rw [h]; rfl
theorem KR.p (hx : POne P ops i ts v) (h : KR P good fn (.reg ops l :: s) (putL ts (dstOf ops i) v) H r) : KR P good fn (.reg ops (i :: l) :: s) ts H r := by
  obtain ⟨o, ho, hw, hc, hv⟩ := hx.ex
  rw [dstOf_some ho] at h
  exact KR.opP ho hw hc hv h
theorem KR.rd (hx : ROne P ops i ts H v) (h : KR P good fn (.reg ops l :: s) (putL ts (dstOf ops i) v) H r) : KR P good fn (.reg ops (i :: l) :: s) ts H r := by
  obtain ⟨o, ho, hw, hc, hv⟩ := hx.ex
  rw [dstOf_some ho] at h
  exact KR.opR ho hw hc hv h
theorem KR.mk {w : NewRow} (hx : AOne P ops i ts w) (hH : H' = H.push (.row w.cs true)) (h : KR P good fn (.reg ops l :: s) (putL ts (dstOf ops i) (w.val H.next)) H' r) : KR P good fn (.reg ops (i :: l) :: s) ts H r := by
  obtain ⟨o, ho, hw, hc, hv⟩ := hx.ex
  rw [dstOf_some ho] at h
  subst hH
  exact KR.opA ho hw hc hv h
theorem KR.se (hx : SOne P good ops i ts H v H') (h : KR P good fn (.reg ops l :: s) (putL ts (dstOf ops i) v) H' r) : KR P good fn (.reg ops (i :: l) :: s) ts H r := by
  obtain ⟨o, ho, hw, hv⟩ := hx.ex
  rw [dstOf_some ho] at h
  rcases hv with ⟨hc, hv⟩ | ⟨hc, f, args, h1, h2⟩
  · exact KR.opS ho hw hc hv h
  · exact KR.opC ho hw hc h1 h2 h

/-! ### a drawn region whose order cannot be told -/
def seqDraw (P : Program) (ops : Array Oper) : Bool :=
  (List.range ops.size).all fun i => match ops[i]? with
  | none => true
  | some o => match clsOf P o with
    | .A => serOf P ops i
    | .R => cnt (fun j => serOf P ops j && bB (Region.before ops) i j) ops.size == cnt (serOf P ops) i && cnt (fun j => serOf P ops j && !bB (Region.before ops) j i) ops.size == cnt (serOf P ops) i
    | _ => true
theorem nRes_seq (h : seqDraw P ops = true) : nRes P ops = 0 := by
  unfold nRes
  rw [if_neg]
  intro hc
  obtain ⟨i, hi, h2⟩ := List.any_eq_true.1 hc
  unfold seqDraw at h
  have := List.all_eq_true.1 h i hi
  simp only [Bool.and_eq_true, Bool.not_eq_true'] at h2
  obtain ⟨h2, h3⟩ := h2
  unfold isAOf at h2
  cases ho : ops[i]? with
  | none => rw [ho] at h2; cases h2
  | some o =>
    rw [ho] at h2 this
    simp only [beq_iff_eq] at h2
    simp only [h2, h3] at this
    cases this
theorem drun_seq (h : seqDraw P ops = true) {call : CallF} {base : Nat} : ∀ (k i : Nat) (ts : Ts) (H : Heap) (G : List Heap) (prev : Option Nat) (v : Value) (ts' : Ts) (H' : Heap), i + k = ops.size → G.length = cnt (serOf P ops) i + 1 → G.getLastD noHeap = H →
    xlist P call ops (List.range' i k) ts H = some (ts', H') → ∃ G' prev' v', drun P call ops (Region.before ops) base k i ⟨ts, G, [], prev, v, []⟩ = some ⟨ts', G', [], prev', v', []⟩ ∧ G'.getLastD noHeap = H' := by
  intro k
  induction k with
  | zero => intro i ts H G prev v ts' H' _ _ hG hx; simp only [List.range'_zero, xlist, Option.some.injEq, Prod.mk.injEq] at hx; obtain ⟨rfl, rfl⟩ := hx; exact ⟨G, prev, v, rfl, hG⟩
  | succ k ih =>
    intro i ts H G prev v ts' H' hik hlen hG hx
    have hlt : i < ops.size := by omega
    have hsome : ops[i]? = some ops[i] := Array.getElem?_eq_getElem hlt
    have hq := List.all_eq_true.1 h i (List.mem_range.2 hlt)
    generalize ops[i] = o at hsome
    simp only [hsome] at hq
    simp only [List.range'_succ, xlist, hsome] at hx
    have hpick : ∀ c p, pickRows (Region.before ops) ([] : List (Nat × NewRow)) c p = [] := fun _ _ => rfl
    have hcs : cnt (serOf P ops) (i + 1) = cnt (serOf P ops) i + if serOf P ops i then 1 else 0 := cnt_succ _ _
    simp only [drun, dstep, hsome, hpick, setRows, hG]
    split at hx
    · rename_i hw
      rw [if_pos hw]
      unfold xone at hx
      cases hc : clsOf P o with
      | P =>
        have hs : serOf P ops i = false := by unfold serOf serialB; simp only [hsome, hc]; rfl
        simp only [hc] at hx ⊢
        cases hv : xP P (rho ts) o with
        | none => rw [hv] at hx; cases hx
        | some u => rw [hv] at hx; exact ih _ _ _ _ _ _ _ _ (by omega) (by rw [hlen, hcs, hs]; rfl) hG hx
      | R =>
        have hs : serOf P ops i = false := by unfold serOf serialB; simp only [hsome, hc]; rfl
        simp only [hc, Bool.and_eq_true, beq_iff_eq] at hx hq ⊢
        obtain ⟨q1, q2⟩ := hq
        have hlast : G.getD (cnt (serOf P ops) i) noHeap = H := by
          rw [← hG, List.getLastD_eq_getLast?, List.getLast?_eq_getElem?, List.getD, show G.length - 1 = cnt (serOf P ops) i by omega]
        simp only [q1, q2, hlast, Nat.lt_irrefl, if_false]
        cases hv : xread P (rho ts) H o with
        | none => rw [hv] at hx; cases hx
        | some u => rw [hv] at hx; exact ih _ _ _ _ _ _ _ _ (by omega) (by rw [hlen, hcs, hs]; rfl) hG hx
      | A =>
        simp only [hc] at hx hq ⊢
        cases hv : xalloc P (rho ts) o with
        | none => rw [hv] at hx; cases hx
        | some u =>
          rw [hv] at hx
          simp only [hq, if_true]
          exact ih _ _ _ _ _ _ _ _ (by omega) (by rw [List.length_append, hlen, hcs, hq]; rfl) (by simp) hx
      | S =>
        have hs : serOf P ops i = true := by unfold serOf serialB; simp only [hsome, hc]; rfl
        simp only [hc] at hx ⊢
        cases hv : xser P (rho ts) H o with
        | none => rw [hv] at hx; cases hx
        | some u => obtain ⟨u, H1⟩ := u; rw [hv] at hx; exact ih _ _ _ _ _ _ _ _ (by omega) (by rw [List.length_append, hlen, hcs, hs]; rfl) (by simp) hx
      | C =>
        have hs : serOf P ops i = true := by unfold serOf serialB; simp only [hsome, hc]; rfl
        simp only [hc] at hx ⊢
        cases hv : xcallee P (rho ts) o with
        | none => rw [hv] at hx; cases hx
        | some fa =>
          obtain ⟨f, args⟩ := fa
          rw [hv] at hx
          simp only at hx ⊢
          cases hcall : call f args H with
          | none => rw [hcall] at hx; cases hx
          | some u => obtain ⟨u, H1⟩ := u; rw [hcall] at hx; exact ih _ _ _ _ _ _ _ _ (by omega) (by rw [List.length_append, hlen, hcs, hs]; rfl) (by simp) hx
    · rename_i hw
      rw [if_neg hw]
      cases hs : serOf P ops i with
      | true => simp only [if_true]; exact ih _ _ _ _ _ _ _ _ (by omega) (by rw [List.length_append, hlen, hcs, hs]; rfl) (by simp) hx
      | false => simp only [Bool.false_eq_true, if_false]; exact ih _ _ _ _ _ _ _ _ (by omega) (by rw [hlen, hcs, hs]; rfl) hG hx
theorem KR.seqD {id : Nat} (hs : seqDraw P ops = true) (h : KR P good fn (.reg ops (List.range ops.size) :: s) ts H r) : KR P good fn (.code (.region id ops true) :: s) ts H r := by
  obtain ⟨ts', H', hx, ha⟩ := h
  obtain ⟨G', prev', v', h1, h2⟩ := drun_seq hs (base := H.next) ops.size 0 ts H [H] none undef ts' H' (by omega) rfl rfl (by rw [← List.range_eq_range']; exact hx)
  refine KR.draw (ts' := ts') (H' := H') ?_ ha
  unfold xdraw
  rw [nRes_seq hs]
  simp only [reserve, h1, List.all_nil, if_true, pickRows, List.filter_nil, setRows, h2]
def drawn (P : Program) : Code → Bool
  | .region _ ops true => seqDraw P ops
  | _ => false
theorem KR.sd {c : Code} (hs : drawn P c = true) (h : KR P good fn (.reg (opsAt c) (List.range (opsAt c).size) :: s) ts H r) : KR P good fn (.code c :: s) ts H r := by
  cases c with
  | region id ops draw => cases draw with
    | true => exact KR.seqD hs h
    | false => cases hs
  | _ => cases hs
end
end Go.X
