/- The words of the printed functions, and what they stand for. -/
import Derived.Test.YtomibdncbioijaaXzRun
set_option linter.unusedVariables false
set_option linter.unusedSimpArgs false
namespace Go.X
open Go Go.RowKit

/-! ### values, taken apart -/
def asI (k : IntKind) : Value → Option Int
  | .int k' n => if k' = k then some n else none
  | _ => none
def asB : Value → Option Bool
  | .bool b => some b
  | _ => none
def asStr : Value → Option ByteArray
  | .string s => some s
  | _ => none
def asP : Value → Option (Option Addr)
  | .pointer p => some p
  | _ => none
def asSl : Value → Option (Option Addr × Nat × Nat)
  | .slice a n c => some (a, n, c)
  | _ => none
def asM : Value → Option (Option Nat)
  | .map r => some r
  | _ => none
def asT (n : Nat) : Value → Option (List Value)
  | .tuple vs => if vs.toList.length = n then some vs.toList else none
  | _ => none
def asG (n : Nat) : Value → Option (List Value)
  | .agg vs => if vs.toList.length = n then some vs.toList else none
  | _ => none
def asAt : Option Addr → Option (Nat × Nat)
  | some ad => match ad.spot with
    | none => some (ad.block, ad.off)
    | some _ => none
  | none => none
def asIf : Value → Option (Option (TypeId × Value))
  | .nilIface => some none
  | .iface t v => some (some (t, v))
  | _ => none
@[simp] theorem asI_int (k : IntKind) (n : Int) : asI k (.int k n) = some n := by simp [asI]
@[simp] theorem asB_bool (b : Bool) : asB (.bool b) = some b := rfl
@[simp] theorem asStr_string (s : ByteArray) : asStr (.string s) = some s := rfl
@[simp] theorem asP_pointer (p : Option Addr) : asP (.pointer p) = some p := rfl
@[simp] theorem asSl_slice (a : Option Addr) (n c : Nat) : asSl (.slice a n c) = some (a, n, c) := rfl
@[simp] theorem asM_map (r : Option Nat) : asM (.map r) = some r := rfl
@[simp] theorem asAt_at (b o : Nat) : asAt (some ⟨b, o, none⟩) = some (b, o) := rfl
@[simp] theorem asAt_none : asAt none = none := rfl
theorem asI_eq {k : IntKind} {v : Value} {n : Int} (h : asI k v = some n) : v = .int k n := by
  cases v <;> simp [asI] at h; obtain ⟨rfl, rfl⟩ := h; rfl
theorem asB_eq {v : Value} {b : Bool} (h : asB v = some b) : v = .bool b := by cases v <;> simp [asB] at h; subst h; rfl
theorem asStr_eq {v : Value} {s : ByteArray} (h : asStr v = some s) : v = .string s := by cases v <;> simp [asStr] at h; subst h; rfl
theorem asP_eq {v : Value} {p : Option Addr} (h : asP v = some p) : v = .pointer p := by cases v <;> simp [asP] at h; subst h; rfl
theorem asSl_eq {v : Value} {a : Option Addr} {n c : Nat} (h : asSl v = some (a, n, c)) : v = .slice a n c := by cases v <;> simp [asSl] at h; obtain ⟨rfl, rfl, rfl⟩ := h; rfl
theorem asM_eq {v : Value} {r : Option Nat} (h : asM v = some r) : v = .map r := by cases v <;> simp [asM] at h; subst h; rfl
theorem asT_eq {n : Nat} {v : Value} {l : List Value} (h : asT n v = some l) : v = .tuple l.toArray ∧ l.length = n := by
  cases v <;> simp only [asT] at h <;> try (cases h; done)
  split at h
  · rename_i hn; cases h; exact ⟨rfl, hn⟩
  · cases h
theorem asG_eq {n : Nat} {v : Value} {l : List Value} (h : asG n v = some l) : v = .agg l.toArray ∧ l.length = n := by
  cases v <;> simp only [asG] at h <;> try (cases h; done)
  split at h
  · rename_i hn; cases h; exact ⟨rfl, hn⟩
  · cases h
theorem asAt_eq {p : Option Addr} {b o : Nat} (h : asAt p = some (b, o)) : p = some ⟨b, o, none⟩ := by
  cases p with
  | none => cases h
  | some ad =>
    obtain ⟨b', o', sp⟩ := ad
    cases sp <;> simp [asAt] at h
    obtain ⟨rfl, rfl⟩ := h; rfl
theorem asIf_eq {v : Value} {r : Option (TypeId × Value)} (h : asIf v = some r) : v = match r with | none => .nilIface | some (t, x) => .iface t x := by
  cases v <;> simp [asIf] at h <;> subst h <;> rfl
/-- Rows of values, taken apart. -/
def un1 : List Value → Option Value
  | [a] => some a
  | _ => none
theorem un1_eq {l : List Value} {a : Value} (h : un1 l = some a) : l = [a] := by
  match l with
  | [x] => simp [un1] at h; rw [h]
  | [] => simp [un1] at h
  | x :: y :: l => simp [un1] at h
def unC : List Value → Option (Value × List Value)
  | a :: l => some (a, l)
  | [] => none
theorem unC_eq {l l' : List Value} {a : Value} (h : unC l = some (a, l')) : l = a :: l' := by cases l <;> simp [unC] at h; obtain ⟨rfl, rfl⟩ := h; rfl
theorem un0_eq {l : List Value} (h : l.length = 0) : l = [] := List.eq_nil_of_length_eq_zero h

/-! ### numbers -/
def iand (k : IntKind) (x y : Int) : Int := k.wrap ((BitVec.ofInt k.bits x &&& BitVec.ofInt k.bits y).toNat : Nat)
def ior (k : IntKind) (x y : Int) : Int := k.wrap ((BitVec.ofInt k.bits x ||| BitVec.ofInt k.bits y).toNat : Nat)
def ixor (k : IntKind) (x y : Int) : Int := k.wrap ((BitVec.ofInt k.bits x ^^^ BitVec.ofInt k.bits y).toNat : Nat)
def iandnot (k : IntKind) (x y : Int) : Int := k.wrap ((BitVec.ofInt k.bits x &&& ~~~(BitVec.ofInt k.bits y)).toNat : Nat)
def ishl (k : IntKind) (x y : Int) : Int := k.wrap (x * 2 ^ (min y.toNat k.bits))
def ishr (k : IntKind) (x y : Int) : Int := x.fdiv (2 ^ (min y.toNat k.bits))
def imin (x y : Int) : Int := if y < x then y else x
def imax (x y : Int) : Int := if y > x then y else x

/-! ### memory -/
def ldc (H : Heap) (b o : Nat) : Option Value :=
  match H.get b with
  | .row cs _ => cs[o]?
  | _ => none
def stc (H : Heap) (b o : Nat) (vs : List Value) : Option Heap :=
  match H.get b with
  | .row cs true => if o + vs.length ≤ cs.length then some (H.set b (.row (setMany cs o vs) true)) else none
  | _ => none
def pix (sz : Nat) (a : Option Addr) (n : Nat) (i : Int) : Option (Nat × Nat) :=
  match a with
  | some ad => match ad.spot with
    | none => if 0 ≤ i ∧ i < n then some (ad.block, ad.off + i.toNat * sz) else none
    | some _ => none
  | none => none
def psl (sz : Nat) (a : Option Addr) (n c : Nat) (lo hi mx : Option Int) : Option (Option Addr × Nat × Nat) :=
  (xslice sz (.slice a n c) (lo.map (.int .i64)) (hi.map (.int .i64)) (mx.map (.int .i64))).bind asSl
def pss (s : ByteArray) (lo hi : Option Int) : Option ByteArray :=
  match boundOf 0 (lo.map (.int .i64)), boundOf s.size (hi.map (.int .i64)) with
  | some l, some h => if l ≤ h ∧ h ≤ s.size then some (s.extract l h) else none
  | _, _ => none
def pbi (s : ByteArray) (i : Int) : Option Int := if 0 ≤ i then (s[i.toNat]?).map fun b => (b.toNat : Int) else none
def pag (vs : List Value) (i : Int) : Option Value := if 0 ≤ i then vs[i.toNat]? else none
def papp (H : Heap) (sz by_ : Nat) (a : Option Addr) (n c : Nat) (a2 : Option Addr) (n2 c2 : Nat) : Option ((Option Addr × Nat × Nat) × Heap) :=
  match xappend H sz by_ (.slice a n c) (.slice a2 n2 c2) with
  | some (v, H') => (asSl v).map fun s => (s, H')
  | none => none
def pcopy (H : Heap) (sz : Nat) (a : Option Addr) (n c : Nat) (a2 : Option Addr) (n2 c2 : Nat) : Option (Nat × Heap) := xcopy H sz (.slice a n c) (.slice a2 n2 c2)
def pclear (H : Heap) (z : List Value) (a : Option Addr) (n c : Nat) : Option Heap := xclear H z (.slice a n c)
def pstrb (H : Heap) (a : Option Addr) (n : Nat) : Option ByteArray :=
  match a with
  | none => if n = 0 then some (strOfNums []) else none
  | some ad => match ad.spot with
    | some _ => if n = 0 then some (strOfNums []) else none
    | none => match H.get ad.block with
      | .row cs _ => if ad.off + n ≤ cs.length then (numsOf ((cs.drop ad.off).take n)).map strOfNums else none
      | _ => none
def pmark (H : Heap) (a : Option Addr) : Option Unit := none
def pmk (by_ : Nat) (n c : Int) : Option Nat := if 0 ≤ n ∧ n = c ∧ n * by_ ≤ 140737488355328 ∧ n ≤ 1000000000000 then some n.toNat else none
def pshift (y : Int) : Option Unit := if y < 0 then none else some ()
def pdiv (y : Int) : Option Unit := if y = 0 then none else some ()

/-! ### code, by place -/
def child (i : Nat) : Code → Code
  | .seq a b => bif Nat.beq i 0 then a else b
  | .cond _ a b => bif Nat.beq i 0 then a else b
  | .block _ c => c
  | .loop c => c
  | c => c
def sub (c : Code) : List Nat → Code
  | [] => c
  | i :: l => sub (child i c) l
def opsAt : Code → Array Oper
  | .region _ ops _ => ops
  | _ => #[]
def opAt (ops : Array Oper) (i : Nat) : Oper := ops.getD i default
def bodyOf (fn : Func) : Code := fn.body.getD .skip

/-! ### what types say -/
def scalT (P : Program) (t : TypeId) : Bool :=
  match P.underlying t with
  | some (.struct _) | some (.array _ _) | none => false
  | some _ => true
def aggT (P : Program) (t : TypeId) (n : Nat) : Bool :=
  match P.underlying t with
  | some (.struct _) | some (.array _ _) => match P.info? t with
    | some i => i.size == n
    | none => false
  | _ => false
def slcT (P : Program) (t : TypeId) (sz : Nat) : Bool :=
  match P.underlying t with
  | some (.slice e) => match P.info? e with
    | some i => i.size == sz
    | none => false
  | _ => false
def strT (P : Program) (t : TypeId) : Bool :=
  match P.underlying t with
  | some .string => true
  | _ => false
def arr1T (P : Program) (t : TypeId) (n : Nat) : Bool :=
  match P.underlying t with
  | some (.array k e) => k == n && scalT P e && (match P.info? e with | some i => i.size == 1 | none => false)
  | _ => false
def appT (P : Program) (t u : TypeId) (sz by_ : Nat) : Bool :=
  match P.underlying t, P.underlying u with
  | some (.slice e), some (.slice _) => match P.info? e with
    | some i => i.size == sz && i.bytes == by_ && (match i.zero with
      | some z => z.cells.size == i.size
      | none => false)
    | none => false
  | _, _ => false
def szT (P : Program) (t : TypeId) (n : Nat) : Bool :=
  match P.info? t with
  | some i => i.size == n
  | none => false
def nilT (P : Program) (t : TypeId) : Nat :=
  match P.underlying t with
  | some (.pointer _) => 1
  | some (.slice _) => 2
  | some (.interface _) => 3
  | some (.map _ _) => 4
  | some (.func _ _ _) => 5
  | _ => 0

section
variable {P : Program} {ts : Ts} {H : Heap} {o : Oper}

theorem op_load {t : TypeId} {a : Operand} {b off : Nat} {v : Value} (hop : o.op = .load t a) (ht : scalT P t = true) (ha : rho ts a = .pointer (some ⟨b, off, none⟩)) (h : ldc H b off = some v) : xread P (rho ts) H o = some v := by
  obtain ⟨dst, op, ty, pos, after, guard⟩ := o
  simp only at hop
  subst hop
  simp only [xread, ha]
  unfold ldc at h
  cases hg : H.get b with
  | row cs own =>
    simp only [hg] at h ⊢
    unfold scalT at ht
    unfold loadOf
    cases hu : P.underlying t with
    | none => rw [hu] at ht; cases ht
    | some ud => rw [hu] at ht; cases ud <;> first | exact h | cases ht
  | dead => rw [hg] at h; cases h
  | map es => rw [hg] at h; cases h

def ldAll (H : Heap) (b : Nat) : Nat → List Value → Prop
  | _, [] => True
  | o, v :: vs => ldc H b o = some v ∧ ldAll H b (o + 1) vs
theorem ldAll_get {b : Nat} {cs : List Value} {own : Bool} (hg : H.get b = .row cs own) : ∀ (vs : List Value) (off : Nat), ldAll H b off vs → vs ≠ [] → off + vs.length ≤ cs.length ∧ (cs.drop off).take vs.length = vs := by
  intro vs
  induction vs with
  | nil => intro off _ h; exact absurd rfl h
  | cons v vs ih =>
    intro off h _
    obtain ⟨h1, h2⟩ := h
    unfold ldc at h1
    rw [hg] at h1
    obtain ⟨hlt, hv⟩ := List.getElem?_eq_some_iff.1 h1
    have hd : cs.drop off = v :: cs.drop (off + 1) := by rw [List.drop_eq_getElem_cons hlt, hv]
    by_cases hne : vs = []
    · subst hne
      refine ⟨by simp; omega, ?_⟩
      rw [hd]; rfl
    · obtain ⟨i1, i2⟩ := ih (off + 1) h2 hne
      refine ⟨by simp only [List.length_cons]; omega, ?_⟩
      rw [hd]
      simp only [List.length_cons, List.take_succ_cons, i2]
theorem op_loadA {t : TypeId} {a : Operand} {b off n : Nat} {vs : List Value} (hop : o.op = .load t a) (ht : aggT P t n = true) (hn : vs.length = n) (h0 : 0 < n) (ha : rho ts a = .pointer (some ⟨b, off, none⟩)) (h : ldAll H b off vs) :
    xread P (rho ts) H o = some (.agg vs.toArray) := by
  obtain ⟨dst, op, ty, pos, after, guard⟩ := o
  simp only at hop
  subst hop
  have hne : vs ≠ [] := by rintro rfl; simp at hn; omega
  simp only [xread, ha]
  cases hg : H.get b with
  | dead => cases vs with | nil => exact absurd rfl hne | cons v vs => have := h.1; unfold ldc at this; rw [hg] at this; cases this
  | map es => cases vs with | nil => exact absurd rfl hne | cons v vs => have := h.1; unfold ldc at this; rw [hg] at this; cases this
  | row cs own =>
    obtain ⟨h1, h2⟩ := ldAll_get hg vs off h hne
    unfold aggT at ht
    unfold loadOf
    cases hu : P.underlying t with
    | none => rw [hu] at ht; cases ht
    | some ud =>
      rw [hu] at ht
      cases hi : P.info? t with
      | none => rw [hi] at ht; cases ud <;> cases ht
      | some i =>
        rw [hi] at ht
        cases ud <;> first | (cases ht; done) | skip
        all_goals
          simp only [beq_iff_eq] at ht
          simp only [hi, ht, ← hn]
          rw [if_pos h1, h2]
theorem op_store {t : TypeId} {a x : Operand} {b off n : Nat} {v : Value} {vs : List Value} {H' : Heap} (hop : o.op = .store t a x) (ht : szT P t n = true) (ha : rho ts a = .pointer (some ⟨b, off, none⟩)) (hx : rho ts x = v) (hnt : notTuple v = true)
    (hc : v.cells.toList = vs) (hn : vs.length = n) (h : stc H b off vs = some H') : xser P (rho ts) H o = some (undef, H') := by
  obtain ⟨dst, op, ty, pos, after, guard⟩ := o
  simp only at hop
  subst hop
  simp only [xser, ha, hx]
  unfold szT at ht
  unfold xstore
  cases hi : P.info? t with
  | none => rw [hi] at ht; cases ht
  | some i =>
    rw [hi] at ht
    simp only [beq_iff_eq] at ht
    unfold stc at h
    simp only
    cases hg : H.get b with
    | dead => rw [hg] at h; cases h
    | map es => rw [hg] at h; cases h
    | row cs own =>
      cases own with
      | false => rw [hg] at h; cases h
      | true =>
        rw [hg] at h
        simp only at h ⊢
        have hs : v.cells.size = i.size := by rw [ht, ← hn, ← hc]; simp
        split at h
        · rename_i hle
          rw [if_pos ⟨hnt, hs, by rw [← hs, ← Array.length_toList, hc]; exact hle⟩, hc]
          cases h
          rfl
        · cases h
theorem op_ix {t : TypeId} {x ix : Operand} {sz n c b off : Nat} {a : Option Addr} {k : IntKind} {i : Int} (hop : o.op = .indexAddr t x ix) (ht : slcT P t sz = true) (hx : rho ts x = .slice a n c) (hi : rho ts ix = .int k i) (h : pix sz a n i = some (b, off)) :
    xP P (rho ts) o = some (.pointer (some ⟨b, off, none⟩)) := by
  obtain ⟨dst, op, ty, pos, after, guard⟩ := o
  simp only at hop
  subst hop
  unfold slcT at ht
  simp only [xP, xpure, hx, hi]
  cases hu : P.underlying t with
  | none => rw [hu] at ht; cases ht
  | some ud =>
    cases ud <;> rw [hu] at ht <;> try (cases ht; done)
    rename_i e
    simp only at ht
    cases hinf : P.info? e with
    | none => rw [hinf] at ht; cases ht
    | some inf =>
      rw [hinf] at ht
      simp only [beq_iff_eq] at ht
      unfold pix at h
      cases a with
      | none => cases h
      | some ad =>
        obtain ⟨b', o', sp⟩ := ad
        cases sp with
        | some s => cases h
        | none =>
          simp only at h ⊢
          split at h
          · rename_i hc
            rw [if_pos hc]
            cases h
            simp [hinf, ht]
          · cases h
theorem op_ag {t : TypeId} {x ix : Operand} {n : Nat} {vs : List Value} {k : IntKind} {i : Int} {v : Value} (hop : o.op = .index t x ix) (ht : arr1T P t n = true) (hn : vs.length = n) (hx : rho ts x = .agg vs.toArray) (hi : rho ts ix = .int k i) (h : pag vs i = some v) :
    xP P (rho ts) o = some v := by
  obtain ⟨dst, op, ty, pos, after, guard⟩ := o
  simp only at hop
  subst hop
  unfold arr1T at ht
  simp only [xP, xpure, hx, hi]
  cases hu : P.underlying t with
  | none => rw [hu] at ht; cases ht
  | some ud =>
    cases ud <;> rw [hu] at ht <;> try (cases ht; done)
    rename_i q e
    simp only [Bool.and_eq_true, beq_iff_eq] at ht
    obtain ⟨⟨rfl, hsc⟩, hsz⟩ := ht
    cases hinf : P.info? e with
    | none => rw [hinf] at hsz; cases hsz
    | some inf =>
      rw [hinf] at hsz
      simp only [beq_iff_eq] at hsz
      unfold pag at h
      split at h
      · rename_i h0
        have hlt := (List.getElem?_eq_some_iff.1 h).1
        simp only
        rw [if_pos ⟨h0, by omega⟩]
        unfold partA
        unfold scalT at hsc
        cases hue : P.underlying e with
        | none => rw [hue] at hsc; cases hsc
        | some ue =>
          rw [hue] at hsc
          cases ue <;> first | (cases hsc; done) | (simp only [hinf, hsz, Nat.mul_one]; simpa using h)
      · cases h
theorem op_slice {t : TypeId} {x : Operand} {lo hi mx : Option Operand} {sz n c n' c' : Nat} {a a' : Option Addr} {lo' hi' mx' : Option Int} (hop : o.op = .slice t x lo hi mx) (ht : slcT P t sz = true) (hx : rho ts x = .slice a n c)
    (h1 : lo.map (rho ts) = lo'.map (.int .i64)) (h2 : hi.map (rho ts) = hi'.map (.int .i64)) (h3 : mx.map (rho ts) = mx'.map (.int .i64)) (h : psl sz a n c lo' hi' mx' = some (a', n', c')) : xP P (rho ts) o = some (.slice a' n' c') := by
  obtain ⟨dst, op, ty, pos, after, guard⟩ := o
  simp only at hop
  subst hop
  unfold slcT at ht
  simp only [xP, xpure]
  cases hu : P.underlying t with
  | none => rw [hu] at ht; cases ht
  | some ud =>
    cases ud <;> rw [hu] at ht <;> try (cases ht; done)
    rename_i e
    simp only at ht
    cases hinf : P.info? e with
    | none => rw [hinf] at ht; cases ht
    | some inf =>
      rw [hinf] at ht
      simp only [beq_iff_eq] at ht
      simp only [hinf, hx, h1, h2, h3, ht]
      unfold psl at h
      obtain ⟨v, hv, hs⟩ := Option.bind_eq_some_iff.1 h
      rw [hv, asSl_eq hs]
theorem op_sliceS {t : TypeId} {x : Operand} {lo hi : Option Operand} {s s' : ByteArray} {lo' hi' : Option Int} (hop : o.op = .slice t x lo hi none) (ht : strT P t = true) (hx : rho ts x = .string s)
    (h1 : lo.map (rho ts) = lo'.map (.int .i64)) (h2 : hi.map (rho ts) = hi'.map (.int .i64)) (h : pss s lo' hi' = some s') : xP P (rho ts) o = some (.string s') := by
  obtain ⟨dst, op, ty, pos, after, guard⟩ := o
  simp only at hop
  subst hop
  unfold strT at ht
  simp only [xP, xpure]
  cases hu : P.underlying t with
  | none => rw [hu] at ht; cases ht
  | some ud =>
    cases ud <;> rw [hu] at ht <;> try (cases ht; done)
    simp only [hx, h1, h2]
    unfold pss at h
    cases hl : boundOf 0 (lo'.map (.int .i64)) with
    | none => rw [hl] at h; cases h
    | some l =>
      cases hh : boundOf s.size (hi'.map (.int .i64)) with
      | none => rw [hl, hh] at h; cases h
      | some hb =>
        rw [hl, hh] at h
        simp only at h ⊢
        split at h
        · rename_i hc; rw [if_pos hc]; cases h; rfl
        · cases h
theorem op_ixS {t : TypeId} {x ix : Operand} {s : ByteArray} {k : IntKind} {i n : Int} (hop : o.op = .index t x ix) (ht : strT P t = true) (hx : rho ts x = .string s) (hi : rho ts ix = .int k i) (h : pbi s i = some n) : xP P (rho ts) o = some (.int .u8 n) := by
  obtain ⟨dst, op, ty, pos, after, guard⟩ := o
  simp only at hop
  subst hop
  unfold strT at ht
  simp only [xP, xpure]
  cases hu : P.underlying t with
  | none => rw [hu] at ht; cases ht
  | some ud =>
    cases ud <;> rw [hu] at ht <;> try (cases ht; done)
    simp only [hx, hi]
    unfold pbi at h
    split at h
    · rename_i h0
      obtain ⟨b, hb, rfl⟩ := Option.map_eq_some_iff.1 h
      rw [if_pos h0, hb]; rfl
    · cases h
theorem op_shl {t yt : TypeId} {x y : Operand} {k yk : IntKind} {a b : Int} (hop : o.op = .binOp .shl t x y yt) (hx : rho ts x = .int k a) (hy : rho ts y = .int yk b) (h : pshift b = some ()) : xP P (rho ts) o = some (.int k (ishl k a b)) := by
  obtain ⟨dst, op, ty, pos, after, guard⟩ := o
  simp only at hop
  subst hop
  have hb : ¬ b < 0 := by unfold pshift at h; split at h; cases h; assumption
  simp only [xP, xpure, hx, hy, xbin, scal, Bool.and_self, if_true, evS, binOp, Op.shift]
  rw [if_neg hb]
  rfl
theorem op_shr {t yt : TypeId} {x y : Operand} {k yk : IntKind} {a b : Int} (hop : o.op = .binOp .shr t x y yt) (hx : rho ts x = .int k a) (hy : rho ts y = .int yk b) (h : pshift b = some ()) : xP P (rho ts) o = some (.int k (ishr k a b)) := by
  obtain ⟨dst, op, ty, pos, after, guard⟩ := o
  simp only at hop
  subst hop
  have hb : ¬ b < 0 := by unfold pshift at h; split at h; cases h; assumption
  simp only [xP, xpure, hx, hy, xbin, scal, Bool.and_self, if_true, evS, binOp, Op.shift]
  rw [if_neg hb]
  rfl
theorem op_quo {t yt : TypeId} {x y : Operand} {k : IntKind} {a b : Int} (hop : o.op = .binOp .quo t x y yt) (hx : rho ts x = .int k a) (hy : rho ts y = .int k b) (h : pdiv b = some ()) : xP P (rho ts) o = some (.int k (k.wrap (a.tdiv b))) := by
  obtain ⟨dst, op, ty, pos, after, guard⟩ := o
  simp only at hop
  subst hop
  have hb : ¬ b = 0 := by unfold pdiv at h; split at h; cases h; assumption
  simp only [xP, xpure, hx, hy, xbin, scal, Bool.and_self, if_true, evS, binOp, Op.intDiv]
  cases k <;> simp only [ne_eq, not_true, if_false] <;> rw [if_neg hb] <;> rfl
theorem op_rem {t yt : TypeId} {x y : Operand} {k : IntKind} {a b : Int} (hop : o.op = .binOp .rem t x y yt) (hx : rho ts x = .int k a) (hy : rho ts y = .int k b) (h : pdiv b = some ()) : xP P (rho ts) o = some (.int k (a.tmod b)) := by
  obtain ⟨dst, op, ty, pos, after, guard⟩ := o
  simp only at hop
  subst hop
  have hb : ¬ b = 0 := by unfold pdiv at h; split at h; cases h; assumption
  simp only [xP, xpure, hx, hy, xbin, scal, Bool.and_self, if_true, evS, binOp, Op.intDiv]
  cases k <;> simp only [ne_eq, not_true, if_false] <;> rw [if_neg hb] <;> rfl
theorem op_pick {c x y : Operand} {t : Bool} (hop : o.op = .pick c x y) (hc : rho ts c = .bool t) : xP P (rho ts) o = some (if t then rho ts x else rho ts y) := by
  obtain ⟨dst, op, ty, pos, after, guard⟩ := o
  simp only at hop
  subst hop
  simp only [xP, xpure, hc]
theorem op_append {t u : TypeId} {x y : Operand} {sz by_ n c n2 c2 n' c' : Nat} {a a2 a' : Option Addr} {H' : Heap} (hop : o.op = .call ⟨.builtin .append, #[x, y], #[t, u]⟩) (ht : appT P t u sz by_ = true) (hx : rho ts x = .slice a n c) (hy : rho ts y = .slice a2 n2 c2)
    (h : papp H sz by_ a n c a2 n2 c2 = some ((a', n', c'), H')) : xser P (rho ts) H o = some (.slice a' n' c', H') := by
  obtain ⟨dst, op, ty, pos, after, guard⟩ := o
  simp only at hop
  subst hop
  unfold appT at ht
  simp only [xser]
  cases htt : P.underlying t with
  | none => rw [htt] at ht; cases ht
  | some ud =>
    cases ud <;> rw [htt] at ht <;> try (cases ht; done)
    rename_i e
    cases huu : P.underlying u with
    | none => rw [huu] at ht; cases ht
    | some ue =>
      cases ue <;> rw [huu] at ht <;> try (cases ht; done)
      simp only at ht
      cases hinf : P.info? e with
      | none => rw [hinf] at ht; cases ht
      | some i =>
        rw [hinf] at ht
        simp only [Bool.and_eq_true, beq_iff_eq] at ht
        obtain ⟨⟨h1, h2⟩, h3⟩ := ht
        cases hz : i.zero with
        | none => rw [hz] at h3; cases h3
        | some z =>
          rw [hz] at h3
          simp only [beq_iff_eq] at h3
          simp only [isSliceOrString, if_true, hinf, hz, h3, hx, hy, h1, h2]
          unfold papp at h
          cases hq : xappend H sz by_ (.slice a n c) (.slice a2 n2 c2) with
          | none => rw [hq] at h; cases h
          | some r =>
            obtain ⟨v, H1⟩ := r
            rw [hq] at h
            obtain ⟨s, hs, h4⟩ := Option.map_eq_some_iff.1 h
            cases h4
            rw [asSl_eq hs]
theorem op_copy {t u : TypeId} {x y : Operand} {sz n c n2 c2 r : Nat} {a a2 : Option Addr} {H' : Heap} (hop : o.op = .call ⟨.builtin .copy, #[x, y], #[t, u]⟩) (ht : slcT P t sz = true) (hx : rho ts x = .slice a n c) (hy : rho ts y = .slice a2 n2 c2)
    (h : pcopy H sz a n c a2 n2 c2 = some (r, H')) : xser P (rho ts) H o = some (.int .i64 r, H') := by
  obtain ⟨dst, op, ty, pos, after, guard⟩ := o
  simp only at hop
  subst hop
  unfold slcT at ht
  simp only [xser]
  cases htt : P.underlying t with
  | none => rw [htt] at ht; cases ht
  | some ud =>
    cases ud <;> rw [htt] at ht <;> try (cases ht; done)
    rename_i e
    simp only at ht
    cases hinf : P.info? e with
    | none => rw [hinf] at ht; cases ht
    | some i =>
      rw [hinf] at ht
      simp only [beq_iff_eq] at ht
      unfold pcopy at h
      simp only [hinf, hx, hy, ht, h, Option.map_some]
theorem op_str {s d : TypeId} {x : Operand} {a : Option Addr} {n c : Nat} {r : ByteArray} (hop : o.op = .convert s d x) (hs : slcT P s 1 = true) (he : (match P.underlying s with | some (.slice e) => (match P.underlying e with | some (.int .u8) => true | _ => false) | _ => false) = true) (hd : strT P d = true) (hx : rho ts x = .slice a n c)
    (h : pstrb H a n = some r) : xread P (rho ts) H o = some (.string r) := by
  obtain ⟨dst, op, ty, pos, after, guard⟩ := o
  simp only at hop
  subst hop
  unfold strT at hd
  simp only [xread, hx]
  cases hss : P.underlying s with
  | none => rw [hss] at he; cases he
  | some us =>
    cases us <;> rw [hss] at he <;> try (cases he; done)
    rename_i e
    simp only at he
    cases hdd : P.underlying d with
    | none => rw [hdd] at hd; cases hd
    | some ud =>
      cases ud <;> rw [hdd] at hd <;> try (cases hd; done)
      cases hee : P.underlying e with
      | none => rw [hee] at he; cases he
      | some ue =>
        cases ue <;> rw [hee] at he <;> try (cases he; done)
        rename_i k
        cases k <;> try (cases he; done)
        unfold pstrb at h
        simp only [hee]
        cases a with
        | none => simp only at h ⊢; split at h; (rename_i h0; rw [if_pos h0]; cases h; rfl); cases h
        | some ad =>
          simp only at h ⊢
          cases hsp : ad.spot with
          | some q => rw [hsp] at h; simp only at h ⊢; split at h; (rename_i h0; rw [if_pos h0]; cases h; rfl); cases h
          | none =>
            rw [hsp] at h
            simp only at h ⊢
            cases hg : H.get ad.block with
            | dead => rw [hg] at h; cases h
            | map es => rw [hg] at h; cases h
            | row cs own =>
              rw [hg] at h
              simp only at h ⊢
              split at h
              · rename_i h0
                rw [if_pos h0]
                obtain ⟨xs, hxs, rfl⟩ := Option.map_eq_some_iff.1 h
                rw [hxs]; rfl
              · cases h
theorem op_mark {s : TypeId} {x : Operand} {a : Option Addr} {n c : Nat} (hop : o.op = .convert s s x) (he : (match P.underlying s with | some (.slice e) => (match P.underlying e with | some (.int .u8) => true | _ => false) | _ => false) = true) (hx : rho ts x = .slice a n c)
    (h : pmark H a = some ()) : xser P (rho ts) H o = some (.slice a n c, H) := by
  cases h
theorem op_make {t : TypeId} {l c : Operand} {sz by_ r : Nat} {z : List Value} {k1 k2 : IntKind} {n q : Int} (hop : o.op = .makeSlice t l c) (ht : (match P.underlying t with
      | some (.slice e) => (match P.info? e with
        | some i => (match i.zero with
          | some zz => i.size == sz && i.bytes == by_ && plainB 9 zz && notTuple zz && zz.cells.size == i.size && decide (0 < i.size)
          | none => false)
        | none => false)
      | _ => false) = true) (hz : (match P.underlying t with | some (.slice e) => ((P.info? e).bind (·.zero)).map (·.cells.toList) | _ => none) = some z) (hx : rho ts l = .int k1 n) (hy : rho ts c = .int k2 q) (h : pmk by_ n q = some r) :
    ∃ f, xalloc P (rho ts) o = some ⟨zerosL z r, f⟩ ∧ ∀ b, f b = .slice (some ⟨b, 0, none⟩) r (UNK sz) := by
  obtain ⟨dst, op, ty, pos, after, guard⟩ := o
  simp only at hop
  subst hop
  simp only [xalloc, hx, hy]
  cases hu : P.underlying t with
  | none => rw [hu] at ht; cases ht
  | some ud =>
    cases ud <;> rw [hu] at ht hz <;> try (cases ht; done)
    rename_i e
    simp only at ht hz
    cases hi : P.info? e with
    | none => rw [hi] at ht; cases ht
    | some i =>
      rw [hi] at ht hz
      simp only [Option.bind_some] at ht hz
      cases hzz : i.zero with
      | none => rw [hzz] at ht; cases ht
      | some zz =>
        rw [hzz] at ht hz
        simp only [Bool.and_eq_true, beq_iff_eq, decide_eq_true_eq, Option.map_some, Option.some.injEq] at ht hz
        obtain ⟨⟨⟨⟨⟨h1, h2⟩, h3⟩, h4⟩, h5⟩, h6⟩ := ht
        unfold pmk at h
        split at h
        · rename_i hc
          obtain ⟨c1, c2, c3, c4⟩ := hc
          cases h
          simp only [hi, hzz]
          rw [if_pos ⟨c1, c2, by rw [h2]; exact c3, c4, h3, h4, h5, h6⟩, hz, h1]
          exact ⟨_, rfl, fun b => rfl⟩
        · cases h
end

/-! ### steps by class -/
section
variable {P : Program} {good : Nat → Bool} {fn : Func} {s : List It} {ts : Ts} {H : Heap} {r : Value × Heap} {ops : Array Oper} {i : Nat} {l : List Nat} {o : Oper} {v : Value} {H' : Heap}

theorem KR.opP (ho : ops[i]? = some o) (hw : Region.wanted o (yieldedL ops ts) = true) (hc : clsOf P o = .P) (hx : xP P (rho ts) o = some v) (h : KR P good fn (.reg ops l :: s) (putL ts o.dst v) H r) : KR P good fn (.reg ops (i :: l) :: s) ts H r :=
  KR.op ho hw (by unfold xone; rw [hc]; simp only [hx]) h
theorem KR.opR (ho : ops[i]? = some o) (hw : Region.wanted o (yieldedL ops ts) = true) (hc : clsOf P o = .R) (hx : xread P (rho ts) H o = some v) (h : KR P good fn (.reg ops l :: s) (putL ts o.dst v) H r) : KR P good fn (.reg ops (i :: l) :: s) ts H r :=
  KR.op ho hw (by unfold xone; rw [hc]; simp only [hx]) h
theorem KR.opA {w : NewRow} (ho : ops[i]? = some o) (hw : Region.wanted o (yieldedL ops ts) = true) (hc : clsOf P o = .A) (hx : xalloc P (rho ts) o = some w) (h : KR P good fn (.reg ops l :: s) (putL ts o.dst (w.val H.next)) (H.push (.row w.cs true)) r) : KR P good fn (.reg ops (i :: l) :: s) ts H r :=
  KR.op ho hw (by unfold xone; rw [hc]; simp only [hx]) h
theorem KR.opS (ho : ops[i]? = some o) (hw : Region.wanted o (yieldedL ops ts) = true) (hc : clsOf P o = .S) (hx : xser P (rho ts) H o = some (v, H')) (h : KR P good fn (.reg ops l :: s) (putL ts o.dst v) H' r) : KR P good fn (.reg ops (i :: l) :: s) ts H r :=
  KR.op ho hw (by unfold xone; rw [hc]; simp only [hx]) h
theorem KR.opC {f : FuncId} {args : List Value} (ho : ops[i]? = some o) (hw : Region.wanted o (yieldedL ops ts) = true) (hc : clsOf P o = .C) (hx : xcallee P (rho ts) o = some (f, args)) (hcall : xC P good f args H = some (v, H')) (h : KR P good fn (.reg ops l :: s) (putL ts o.dst v) H' r) :
    KR P good fn (.reg ops (i :: l) :: s) ts H r :=
  KR.op ho hw (by unfold xone; rw [hc]; simp only [hx, hcall]) h

/-! ### regions that draw, step by step -/
def KD (P : Program) (good : Nat → Bool) (fn : Func) (ops : Array Oper) (b : Array Nat) (base : Nat) (s : List It) (n i : Nat) (σ : DS) (r : Value × Heap) : Prop :=
  ∃ σ', drun P (xC P good) ops b base n i σ = some σ' ∧ σ'.rds.all (rdOk P ops b σ'.G) = true ∧ KR P good fn s σ'.ts (setRows base (σ'.G.getLastD noHeap) (pickRows b σ'.rows none σ'.prev)) r
theorem KD.start {id : Nat} (h : KD P good fn ops (Region.before ops) H.next s ops.size 0 ⟨ts, [reserve H (nRes P ops)], [], none, undef, []⟩ r) : KR P good fn (.code (.region id ops true) :: s) ts H r := by
  obtain ⟨σ', h1, h2, h3⟩ := h
  exact KR.draw (by unfold xdraw; rw [h1]; simp only [h2, if_true]) h3
theorem KD.step {b : Array Nat} {base n : Nat} {σ σ' : DS} (hd : dstep P (xC P good) ops b base i σ = some σ') (h : KD P good fn ops b base s n (i + 1) σ' r) : KD P good fn ops b base s (n + 1) i σ r := by
  obtain ⟨σ2, h1, h2⟩ := h
  exact ⟨σ2, by rw [drun, hd]; exact h1, h2⟩
theorem KD.run {b : Array Nat} {base m : Nat} : ∀ (n : Nat) {i : Nat} {σ σ' : DS}, drun P noCall ops b base n i σ = some σ' → KD P good fn ops b base s m (i + n) σ' r → KD P good fn ops b base s (n + m) i σ r := by
  intro n
  induction n with
  | zero => intro i σ σ' hd h; simp only [drun, Option.some.injEq] at hd; subst hd; simpa using h
  | succ n ih =>
    intro i σ σ' hd h
    simp only [drun] at hd
    cases hs : dstep P noCall ops b base i σ with
    | none => rw [hs] at hd; cases hd
    | some σ1 =>
      rw [hs] at hd
      rw [show n + 1 + m = (n + m) + 1 by omega]
      exact KD.step (dstep_mono (noCall_le _) hs) (ih hd (by rwa [show i + 1 + n = i + (n + 1) by omega]))
theorem KD.done {b : Array Nat} {base i : Nat} {σ : DS} {ts' : Ts} (h1 : σ.rds.all (rdOk P ops b σ.G) = true) (h2 : σ.ts = ts') (h3 : setRows base (σ.G.getLastD noHeap) (pickRows b σ.rows none σ.prev) = H') (h : KR P good fn s ts' H' r) : KD P good fn ops b base s 0 i σ r := by
  subst h2; subst h3
  exact ⟨σ, rfl, h1, h⟩

theorem ds_P {call : CallF} {b : Array Nat} {base : Nat} {σ : DS} (ho : ops[i]? = some o) (hw : Region.wanted o (yieldedL ops σ.ts) = true) (hc : clsOf P o = .P) (hx : xP P (rho σ.ts) o = some v) : dstep P call ops b base i σ = some { σ with ts := putL σ.ts o.dst v, v := v } := by
  unfold dstep; simp only [ho]; rw [if_pos hw, hc]; simp only [hx]
theorem ds_R {call : CallF} {b : Array Nat} {base : Nat} {σ : DS} (ho : ops[i]? = some o) (hw : Region.wanted o (yieldedL ops σ.ts) = true) (hc : clsOf P o = .R) {G : Heap} (hG : σ.G.getD (cnt (fun j => serOf P ops j && bB b i j) ops.size) noHeap = G) (hx : xread P (rho σ.ts) G o = some v) :
    dstep P call ops b base i σ = some { σ with ts := putL σ.ts o.dst v, v := v, rds := if cnt (fun j => serOf P ops j && bB b i j) ops.size < cnt (fun j => serOf P ops j && !bB b j i) ops.size then σ.rds ++ [(i, σ.ts, v)] else σ.rds } := by
  unfold dstep; simp only [ho]; rw [if_pos hw, hc]; simp only [hG, hx]
theorem ds_S {call : CallF} {b : Array Nat} {base : Nat} {σ : DS} (ho : ops[i]? = some o) (hw : Region.wanted o (yieldedL ops σ.ts) = true) (hc : clsOf P o = .S) {G : Heap} (hG : setRows base (σ.G.getLastD noHeap) (pickRows b σ.rows (some i) σ.prev) = G) (hx : xser P (rho σ.ts) G o = some (v, H')) :
    dstep P call ops b base i σ = some { σ with ts := putL σ.ts o.dst v, v := v, G := σ.G ++ [H'], prev := some i } := by
  unfold dstep; simp only [ho]; rw [if_pos hw, hc]; simp only [hG, hx]
theorem ds_C {call : CallF} {b : Array Nat} {base : Nat} {σ : DS} {f : FuncId} {args : List Value} (ho : ops[i]? = some o) (hw : Region.wanted o (yieldedL ops σ.ts) = true) (hc : clsOf P o = .C) {G : Heap} (hG : setRows base (σ.G.getLastD noHeap) (pickRows b σ.rows (some i) σ.prev) = G)
    (hx : xcallee P (rho σ.ts) o = some (f, args)) (hcall : call f args G = some (v, H')) : dstep P call ops b base i σ = some { σ with ts := putL σ.ts o.dst v, v := v, G := σ.G ++ [H'], prev := some i } := by
  unfold dstep; simp only [ho]; rw [if_pos hw, hc]; simp only [hG, hx, hcall]
theorem ds_A {call : CallF} {b : Array Nat} {base : Nat} {σ : DS} {w : NewRow} (ho : ops[i]? = some o) (hw : Region.wanted o (yieldedL ops σ.ts) = true) (hc : clsOf P o = .A) (hs : serOf P ops i = true) {G : Heap} (hG : setRows base (σ.G.getLastD noHeap) (pickRows b σ.rows (some i) σ.prev) = G)
    (hx : xalloc P (rho σ.ts) o = some w) : dstep P call ops b base i σ = some { σ with ts := putL σ.ts o.dst (w.val G.next), v := w.val G.next, G := σ.G ++ [G.push (.row w.cs true)], prev := some i } := by
  unfold dstep; simp only [ho]; rw [if_pos hw, hc]; simp only [hx, hs, if_true, hG]
theorem ds_B {call : CallF} {b : Array Nat} {base : Nat} {σ : DS} {w : NewRow} (ho : ops[i]? = some o) (hw : Region.wanted o (yieldedL ops σ.ts) = true) (hc : clsOf P o = .A) (hs : serOf P ops i = false)
    (hx : xalloc P (rho σ.ts) o = some w) : dstep P call ops b base i σ = some { σ with ts := putL σ.ts o.dst (w.val (base + i)), v := w.val (base + i), rows := σ.rows ++ [(i, w)] } := by
  unfold dstep; simp only [ho]; rw [if_pos hw, hc]; simp only [hx, hs, Bool.false_eq_true, if_false]
theorem ds_N {call : CallF} {b : Array Nat} {base : Nat} {σ : DS} (ho : ops[i]? = some o) (hw : Region.wanted o (yieldedL ops σ.ts) = false) (hs : serOf P ops i = false) : dstep P call ops b base i σ = some { σ with ts := putL σ.ts o.dst undef, v := undef } := by
  unfold dstep; simp only [ho, hw, Bool.false_eq_true, if_false, hs]
theorem ds_M {call : CallF} {b : Array Nat} {base : Nat} {σ : DS} (ho : ops[i]? = some o) (hw : Region.wanted o (yieldedL ops σ.ts) = false) (hs : serOf P ops i = true) {G : Heap} (hG : setRows base (σ.G.getLastD noHeap) (pickRows b σ.rows (some i) σ.prev) = G) :
    dstep P call ops b base i σ = some { σ with ts := putL σ.ts o.dst undef, v := undef, G := σ.G ++ [G], prev := some i } := by
  unfold dstep; simp only [ho, hw, Bool.false_eq_true, if_false, hs, if_true, hG]
end
end Go.X
