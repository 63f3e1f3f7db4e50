/- One operation each, with its open part as a hypothesis; what can be computed is computed by a check. -/
import Derived.Test.YtomibdncbioijaaXzWalk
set_option linter.unusedVariables false
set_option linter.unusedSimpArgs false
namespace Go.X
open Go Go.RowKit

def want (ops : Array Oper) (i : Nat) (ts : Ts) : Option Oper :=
  match ops[i]? with
  | some o => if Region.wanted o (yieldedL ops ts) then some o else none
  | none => none
section
variable {P : Program} {good : Nat → Bool} {ts : Ts} {H H' : Heap} {ops : Array Oper} {i : Nat} {v : Value} {o : Oper}
theorem want_some (h : want ops i ts = some o) : ops[i]? = some o ∧ Region.wanted o (yieldedL ops ts) = true := by
  unfold want at h
  cases ho : ops[i]? with
  | none => rw [ho] at h; cases h
  | some o' =>
    rw [ho] at h
    simp only at h
    split at h
    · rename_i hw; cases h; exact ⟨rfl, hw⟩
    · cases h

def addrOf : Value → Option (Nat × Nat)
  | .pointer (some ad) => match ad.spot with
    | none => some (ad.block, ad.off)
    | some _ => none
  | _ => none
theorem addrOf_eq {v : Value} {b off : Nat} (h : addrOf v = some (b, off)) : v = .pointer (some ⟨b, off, none⟩) := by
  unfold addrOf at h
  split at h
  · rename_i ad
    obtain ⟨b', o', sp⟩ := ad
    cases sp with
    | none => cases h; rfl
    | some s => cases h
  · cases h
def i64Of : Value → Option Int
  | .int .i64 n => some n
  | _ => none
theorem i64Of_eq {v : Value} {n : Int} (h : i64Of v = some n) : v = .int .i64 n := by
  unfold i64Of at h
  split at h
  · cases h; rfl
  · cases h
def intOf : Value → Option (IntKind × Int)
  | .int k n => some (k, n)
  | _ => none
theorem intOf_eq {v : Value} {k : IntKind} {n : Int} (h : intOf v = some (k, n)) : v = .int k n := by
  unfold intOf at h
  split at h
  · cases h; rfl
  · cases h

/-! #### reads -/
def ldChk (P : Program) (ops : Array Oper) (i : Nat) (ts : Ts) : Option (Nat × Nat) :=
  (want ops i ts).bind fun o => match o.op with
  | .load t a => bif scalT P t then addrOf (rho ts a) else none
  | _ => none
theorem one_ld {b off : Nat} (hx : ldChk P ops i ts = some (b, off)) (hv : ldc H b off = some v) : ROne P ops i ts H v := by
  obtain ⟨o, hw, h⟩ := Option.bind_eq_some_iff.1 hx
  obtain ⟨h1, h2⟩ := want_some hw
  cases ho : o.op <;> simp only [ho] at h <;> try (cases h; done)
  rename_i t a
  cases ht : scalT P t with
  | false => rw [ht] at h; cases h
  | true => rw [ht] at h; exact ⟨o, h1, h2, by unfold clsOf; rw [ho], op_load ho ht (addrOf_eq h) hv⟩
def ldAChk (P : Program) (ops : Array Oper) (i : Nat) (ts : Ts) (n : Nat) : Option (Nat × Nat) :=
  (want ops i ts).bind fun o => match o.op with
  | .load t a => bif aggT P t n && Nat.blt 0 n then addrOf (rho ts a) else none
  | _ => none
theorem one_ldA {b off : Nat} {vs : List Value} (hx : ldAChk P ops i ts vs.length = some (b, off)) (hv : ldAll H b off vs) : ROne P ops i ts H (.agg vs.toArray) := by
  obtain ⟨o, hw, h⟩ := Option.bind_eq_some_iff.1 hx
  obtain ⟨h1, h2⟩ := want_some hw
  cases ho : o.op <;> simp only [ho] at h <;> try (cases h; done)
  rename_i t a
  cases ht : aggT P t vs.length with
  | false => rw [ht] at h; cases h
  | true =>
    rw [ht] at h
    cases hb : Nat.blt 0 vs.length with
    | false => rw [hb] at h; cases h
    | true =>
      rw [hb] at h
      have h0 : 0 < vs.length := by
        rw [Nat.blt_eq] at hb; exact hb
      exact ⟨o, h1, h2, by unfold clsOf; rw [ho], op_loadA ho ht rfl h0 (addrOf_eq h) hv⟩
def u8T (P : Program) (s : TypeId) : Bool := match P.underlying s with | some (.slice e) => (match P.underlying e with | some (.int .u8) => true | _ => false) | _ => false
theorem u8T_slc {s : TypeId} (h : u8T P s = true) : ∃ e, P.underlying s = some (.slice e) := by
  unfold u8T at h
  split at h
  · exact ⟨_, by assumption⟩
  · cases h
theorem strT_eq {s : TypeId} (h : strT P s = true) : P.underlying s = some .string := by
  unfold strT at h
  split at h
  · assumption
  · cases h
def strChk (P : Program) (ops : Array Oper) (i : Nat) (ts : Ts) : Option (Option Addr × Nat) :=
  (want ops i ts).bind fun o => match o.op with
  | .convert s d x => bif u8T P s && slcT P s 1 && strT P d then (asSl (rho ts x)).map fun y => (y.1, y.2.1) else none
  | _ => none
theorem one_str {a : Option Addr} {n : Nat} {q : ByteArray} (hx : strChk P ops i ts = some (a, n)) (hv : pstrb H a n = some q) : ROne P ops i ts H (.string q) := by
  obtain ⟨o, hw, h⟩ := Option.bind_eq_some_iff.1 hx
  obtain ⟨h1, h2⟩ := want_some hw
  cases ho : o.op <;> simp only [ho] at h <;> try (cases h; done)
  rename_i s d x
  cases ht : u8T P s && slcT P s 1 && strT P d with
  | false => rw [ht] at h; cases h
  | true =>
    rw [ht] at h
    simp only [Bool.and_eq_true] at ht
    obtain ⟨⟨t1, t2⟩, t3⟩ := ht
    obtain ⟨y, hy, hz⟩ := Option.map_eq_some_iff.1 h
    obtain ⟨a', n', c'⟩ := y
    cases hz
    obtain ⟨e, he⟩ := u8T_slc t1
    exact ⟨o, h1, h2, by unfold clsOf; rw [ho]; simp only [he, strT_eq t3], op_str ho t2 t1 t3 (asSl_eq hy) hv⟩

/-! #### pure ones -/
def ixChk (P : Program) (ops : Array Oper) (i : Nat) (ts : Ts) : Option (Nat × Nat × Nat × Nat × Int) :=
  (want ops i ts).bind fun o => match o.op with
  | .indexAddr t x ix => match P.underlying t with
    | some (.slice e) => match P.info? e, rho ts x, intOf (rho ts ix) with
      | some inf, .slice (some ad) n _, some (_, j) => (match ad.spot with
        | none => some (inf.size, ad.block, ad.off, n, j)
        | some _ => none)
      | _, _, _ => none
    | some (.array n e) => match P.info? e, addrOf (rho ts x), intOf (rho ts ix) with
      | some inf, some (b, off), some (_, j) => some (inf.size, b, off, n, j)
      | _, _, _ => none
    | _ => none
  | _ => none
theorem one_ix (sz b off : Nat) {n : Nat} {j : Int} (hx : ixChk P ops i ts = some (sz, b, off, n, j)) (h0 : 0 ≤ j) (hn : j < n) : POne P ops i ts (.pointer (some ⟨b, off + j.toNat * sz, none⟩)) := by
  obtain ⟨o, hw, h⟩ := Option.bind_eq_some_iff.1 hx
  obtain ⟨h1, h2⟩ := want_some hw
  obtain ⟨dst, op, ty, pos, after, guard⟩ := o
  cases op <;> simp only at h <;> try (cases h; done)
  rename_i t x ix
  refine ⟨_, h1, h2, rfl, ?_⟩
  simp only [xP, xpure]
  cases hu : P.underlying t with
  | none => rw [hu] at h; cases h
  | some ud =>
    cases ud <;> rw [hu] at h <;> try (cases h; done)
    · rename_i e
      simp only at h ⊢
      cases hi : P.info? e with
      | none => rw [hi] at h; cases h
      | some inf =>
        cases hj : intOf (rho ts ix) with
        | none => rw [hi, hj] at h; split at h <;> simp_all
        | some kj =>
          obtain ⟨k, j'⟩ := kj
          rw [hi, hj] at h
          cases hs : rho ts x <;> rw [hs] at h <;> try (cases h; done)
          rename_i a m c
          cases a with
          | none => cases h
          | some ad =>
            obtain ⟨b', o', sp⟩ := ad
            cases sp with
            | some q => cases h
            | none =>
              cases h
              rw [intOf_eq hj]
              simp only
              rw [if_pos ⟨h0, hn⟩, hi]
              rfl
    · rename_i m e
      simp only at h ⊢
      cases hi : P.info? e with
      | none => rw [hi] at h; cases h
      | some inf =>
        cases ha : addrOf (rho ts x) with
        | none => rw [hi, ha] at h; cases h
        | some bo =>
          obtain ⟨b', o'⟩ := bo
          cases hj : intOf (rho ts ix) with
          | none => rw [hi, ha, hj] at h; cases h
          | some kj =>
            obtain ⟨k, j'⟩ := kj
            rw [hi, ha, hj] at h
            cases h
            rw [intOf_eq hj, addrOf_eq ha]
            simp only
            rw [if_pos ⟨h0, hn⟩, hi]
            rfl
def agChk (P : Program) (ops : Array Oper) (i : Nat) (ts : Ts) : Option (List Value × Int) :=
  (want ops i ts).bind fun o => match o.op with
  | .index t x ix => match rho ts x, intOf (rho ts ix) with
    | .agg vs, some (_, j) => bif arr1T P t vs.toList.length then some (vs.toList, j) else none
    | _, _ => none
  | _ => none
theorem one_ag {vs : List Value} {j : Int} (hx : agChk P ops i ts = some (vs, j)) (hv : pag vs j = some v) : POne P ops i ts v := by
  obtain ⟨o, hw, h⟩ := Option.bind_eq_some_iff.1 hx
  obtain ⟨h1, h2⟩ := want_some hw
  cases ho : o.op <;> simp only [ho] at h <;> try (cases h; done)
  rename_i t x ix
  cases hs : rho ts x <;> rw [hs] at h <;> try (cases h; done)
  rename_i cs
  cases hj : intOf (rho ts ix) with
  | none => rw [hj] at h; cases h
  | some kj =>
    obtain ⟨k, j'⟩ := kj
    rw [hj] at h
    simp only at h
    cases ht : arr1T P t cs.toList.length with
    | false => rw [ht] at h; cases h
    | true =>
      rw [ht] at h
      cases h
      exact ⟨o, h1, h2, by unfold clsOf; rw [ho], op_ag ho ht rfl (by rw [hs]) (intOf_eq hj) hv⟩
def bnd (ts : Ts) : Option Operand → Option (Option Int)
  | none => some none
  | some x => (i64Of (rho ts x)).map some
theorem bnd_eq {x : Option Operand} {y : Option Int} (h : bnd ts x = some y) : x.map (rho ts) = y.map (.int .i64) := by
  cases x with
  | none => cases h; rfl
  | some x =>
    obtain ⟨n, hn, rfl⟩ := Option.map_eq_some_iff.1 h
    simp [i64Of_eq hn]
def szOf (P : Program) (t : TypeId) : Option Nat := match P.underlying t with
  | some (.slice e) => (P.info? e).map (·.size)
  | _ => none
theorem szOf_slc {t : TypeId} {n : Nat} (h : szOf P t = some n) : slcT P t n = true := by
  unfold szOf at h
  unfold slcT
  split at h
  · rename_i e hu
    obtain ⟨inf, hi, rfl⟩ := Option.map_eq_some_iff.1 h
    simp [hu, hi]
  · cases h
def both (lo hi mx : Option Operand) : Bool := lo.isSome && hi.isSome && mx.isNone
theorem cls_slice {o : Oper} {t : TypeId} {x : Operand} {lo hi mx : Option Operand} (ho : o.op = .slice t x lo hi mx) (h : both lo hi mx = false) : clsOf P o = .P := by
  unfold clsOf
  rw [ho]
  cases lo <;> cases hi <;> cases mx <;> first | rfl | cases h
def slChk (P : Program) (ops : Array Oper) (i : Nat) (ts : Ts) : Option (Nat × (Option Addr × Nat × Nat) × Option Int × Option Int × Option Int) :=
  (want ops i ts).bind fun o => match o.op with
  | .slice t x lo hi mx => match both lo hi mx, szOf P t, asSl (rho ts x), bnd ts lo, bnd ts hi, bnd ts mx with
    | false, some sz, some a, some l, some h, some m => some (sz, a, l, h, m)
    | _, _, _, _, _, _ => none
  | _ => none
theorem one_sl {sz n c n' c' : Nat} {a a' : Option Addr} {lo hi mx : Option Int} (hx : slChk P ops i ts = some (sz, (a, n, c), lo, hi, mx)) (hv : psl sz a n c lo hi mx = some (a', n', c')) : POne P ops i ts (.slice a' n' c') := by
  obtain ⟨o, hw, h⟩ := Option.bind_eq_some_iff.1 hx
  obtain ⟨h1, h2⟩ := want_some hw
  cases ho : o.op <;> simp only [ho] at h <;> try (cases h; done)
  rename_i t x l hh m
  split at h
  · rename_i e0 e1 e2 e3 e4 e5
    cases h
    exact ⟨o, h1, h2, cls_slice ho e0, op_slice ho (szOf_slc e1) (asSl_eq e2) (bnd_eq e3) (bnd_eq e4) (bnd_eq e5) hv⟩
  · cases h
def pslR (H : Heap) (sz : Nat) (a : Option Addr) (n c : Nat) (lo hi : Int) : Option (Option Addr × Nat × Nat) := (xsliceR H sz (.slice a n c) (.int .i64 lo) (.int .i64 hi)).bind asSl
def srChk (P : Program) (ops : Array Oper) (i : Nat) (ts : Ts) : Option (Nat × (Option Addr × Nat × Nat) × Int × Int) :=
  (want ops i ts).bind fun o => match o.op with
  | .slice t x (some lo) (some hi) none => match szOf P t, asSl (rho ts x), i64Of (rho ts lo), i64Of (rho ts hi) with
    | some sz, some a, some l, some h => some (sz, a, l, h)
    | _, _, _, _ => none
  | _ => none
theorem one_sr {sz n c n' c' : Nat} {a a' : Option Addr} {lo hi : Int} (hx : srChk P ops i ts = some (sz, (a, n, c), lo, hi)) (hv : pslR H sz a n c lo hi = some (a', n', c')) : ROne P ops i ts H (.slice a' n' c') := by
  obtain ⟨o, hw, h⟩ := Option.bind_eq_some_iff.1 hx
  obtain ⟨h1, h2⟩ := want_some hw
  obtain ⟨dst, op, ty, pos, after, guard⟩ := o
  cases op <;> simp only at h <;> try (cases h; done)
  rename_i t x l q m
  cases l with
  | none => cases h
  | some l => cases q with
    | none => cases h
    | some q => cases m with
      | some m => cases h
      | none =>
        simp only at h
        split at h
        · rename_i e1 e2 e3 e4
          cases h
          unfold szOf at e1
          split at e1
          · rename_i e hu
            obtain ⟨inf, hi, rfl⟩ := Option.map_eq_some_iff.1 e1
            refine ⟨_, h1, h2, by simp only [clsOf, hu], ?_⟩
            simp only [xread, hu, hi, asSl_eq e2, i64Of_eq e3, i64Of_eq e4]
            unfold pslR at hv
            obtain ⟨y, hy, hz⟩ := Option.bind_eq_some_iff.1 hv
            rw [hy, asSl_eq hz]
          · cases e1
        · cases h
def ssChk (P : Program) (ops : Array Oper) (i : Nat) (ts : Ts) : Option (ByteArray × Option Int × Option Int) :=
  (want ops i ts).bind fun o => match o.op with
  | .slice t x lo hi none => match strT P t, asStr (rho ts x), bnd ts lo, bnd ts hi with
    | true, some s, some l, some h => some (s, l, h)
    | _, _, _, _ => none
  | _ => none
theorem one_ss {s s' : ByteArray} {lo hi : Option Int} (hx : ssChk P ops i ts = some (s, lo, hi)) (hv : pss s lo hi = some s') : POne P ops i ts (.string s') := by
  obtain ⟨o, hw, h⟩ := Option.bind_eq_some_iff.1 hx
  obtain ⟨h1, h2⟩ := want_some hw
  cases ho : o.op <;> simp only [ho] at h <;> try (cases h; done)
  rename_i t x l hh m
  cases m with
  | some m => cases h
  | none =>
    simp only at h
    split at h
    · rename_i e1 e2 e3 e4
      cases h
      exact ⟨o, h1, h2, by unfold clsOf; rw [ho]; cases l <;> cases hh <;> simp only [strT_eq e1], op_sliceS ho e1 (asStr_eq e2) (bnd_eq e3) (bnd_eq e4) hv⟩
    · cases h
def isChk (P : Program) (ops : Array Oper) (i : Nat) (ts : Ts) : Option (ByteArray × Int) :=
  (want ops i ts).bind fun o => match o.op with
  | .index t x ix => match strT P t, asStr (rho ts x), intOf (rho ts ix) with
    | true, some s, some (_, j) => some (s, j)
    | _, _, _ => none
  | _ => none
theorem one_is {s : ByteArray} {j n : Int} (hx : isChk P ops i ts = some (s, j)) (hv : pbi s j = some n) : POne P ops i ts (.int .u8 n) := by
  obtain ⟨o, hw, h⟩ := Option.bind_eq_some_iff.1 hx
  obtain ⟨h1, h2⟩ := want_some hw
  cases ho : o.op <;> simp only [ho] at h <;> try (cases h; done)
  split at h
  · rename_i e1 e2 e3
    cases h
    exact ⟨o, h1, h2, by unfold clsOf; rw [ho], op_ixS ho e1 (asStr_eq e2) (intOf_eq e3) hv⟩
  · cases h
def biChk (b : BinOp) (ops : Array Oper) (i : Nat) (ts : Ts) : Option ((IntKind × Int) × IntKind × Int) :=
  (want ops i ts).bind fun o => match o.op with
  | .binOp b' _ x y _ => match b == b', intOf (rho ts x), intOf (rho ts y) with
    | true, some a, some c => some (a, c)
    | _, _, _ => none
  | _ => none
theorem biChk_eq {b : BinOp} {k k' : IntKind} {x y : Int} (hx : biChk b ops i ts = some ((k, x), (k', y))) :
    ∃ o t a c t', ops[i]? = some o ∧ Region.wanted o (yieldedL ops ts) = true ∧ o.op = .binOp b t a c t' ∧ rho ts a = .int k x ∧ rho ts c = .int k' y := by
  obtain ⟨o, hw, h⟩ := Option.bind_eq_some_iff.1 hx
  obtain ⟨h1, h2⟩ := want_some hw
  cases ho : o.op <;> simp only [ho] at h <;> try (cases h; done)
  rename_i b' t a c t'
  split at h
  · rename_i e1 e2 e3
    cases h
    have : b = b' := by simpa using e1
    subst this
    exact ⟨o, _, _, _, _, h1, h2, ho, intOf_eq e2, intOf_eq e3⟩
  · cases h
theorem one_shl (k k' : IntKind) (x : Int) {y : Int} (hx : biChk .shl ops i ts = some ((k, x), (k', y))) (h : 0 ≤ y) : POne P ops i ts (.int k (ishl k x y)) := by
  obtain ⟨o, t, a, c, t', h1, h2, h3, h4, h5⟩ := biChk_eq hx
  exact ⟨o, h1, h2, by unfold clsOf; rw [h3], op_shl h3 h4 h5 (by unfold pshift; rw [if_neg (by omega)])⟩
theorem one_shr (k k' : IntKind) (x : Int) {y : Int} (hx : biChk .shr ops i ts = some ((k, x), (k', y))) (h : 0 ≤ y) : POne P ops i ts (.int k (ishr k x y)) := by
  obtain ⟨o, t, a, c, t', h1, h2, h3, h4, h5⟩ := biChk_eq hx
  exact ⟨o, h1, h2, by unfold clsOf; rw [h3], op_shr h3 h4 h5 (by unfold pshift; rw [if_neg (by omega)])⟩
theorem one_quo (k : IntKind) (x : Int) {y : Int} (hx : biChk .quo ops i ts = some ((k, x), (k, y))) (h : y ≠ 0) : POne P ops i ts (.int k (k.wrap (x.tdiv y))) := by
  obtain ⟨o, t, a, c, t', h1, h2, h3, h4, h5⟩ := biChk_eq hx
  exact ⟨o, h1, h2, by unfold clsOf; rw [h3], op_quo h3 h4 h5 (by unfold pdiv; rw [if_neg h])⟩
theorem one_rem (k : IntKind) (x : Int) {y : Int} (hx : biChk .rem ops i ts = some ((k, x), (k, y))) (h : y ≠ 0) : POne P ops i ts (.int k (x.tmod y)) := by
  obtain ⟨o, t, a, c, t', h1, h2, h3, h4, h5⟩ := biChk_eq hx
  exact ⟨o, h1, h2, by unfold clsOf; rw [h3], op_rem h3 h4 h5 (by unfold pdiv; rw [if_neg h])⟩
/-- A pointer, a slice, held against nil. -/
def nlChk (P : Program) (ops : Array Oper) (i : Nat) (ts : Ts) (neg : Bool) : Option (Option Addr) :=
  (want ops i ts).bind fun o => match o.op with
  | .binOp b t x y _ => match (match b with | .eql => !neg | .neq => neg | _ => false), P.underlying t, rho ts x, rho ts y with
    | true, some (.pointer _), .pointer p, .pointer none => some p
    | true, some (.slice _), .slice p _ _, .slice none _ _ => some p
    | _, _, _, _ => none
  | _ => none
theorem one_nl (neg : Bool) (a : Option Addr) (hx : nlChk P ops i ts neg = some a) : POne P ops i ts (.bool (if neg then !a.isNone else a.isNone)) := by
  obtain ⟨o, hw, h⟩ := Option.bind_eq_some_iff.1 hx
  obtain ⟨h1, h2⟩ := want_some hw
  obtain ⟨dst, op, ty, pos, after, guard⟩ := o
  cases op <;> simp only at h <;> try (cases h; done)
  rename_i b t x y yt
  refine ⟨_, h1, h2, rfl, ?_⟩
  split at h
  · rename_i u p e1 e2 e3 e4
    cases h
    simp only [xP, xpure, xbin, e2, e3, e4, scal, Bool.false_and, Bool.false_eq_true, if_false, xcmp]
    cases b <;> simp only at e1 <;> try (cases e1; done)
    · have : neg = false := by simpa using e1
      subst this
      cases a <;> rfl
    · subst e1
      cases a <;> rfl
  · rename_i u p n c n' c' e1 e2 e3 e4
    cases h
    simp only [xP, xpure, xbin, e2, e3, e4, scal, Bool.false_and, Bool.false_eq_true, if_false, xcmp]
    cases b <;> simp only at e1 <;> try (cases e1; done)
    · have : neg = false := by simpa using e1
      subst this
      cases a <;> rfl
    · subst e1
      cases a <;> rfl
  · cases h

/-! #### new memory -/
def pRow (cs : List Value) : NewRow := ⟨cs, fun b => .pointer (some ⟨b, 0, none⟩)⟩
def sRow (n sz : Nat) (cs : List Value) : NewRow := ⟨cs, fun b => .slice (some ⟨b, 0, none⟩) n (UNK sz)⟩
def alChk (P : Program) (ops : Array Oper) (i : Nat) (ts : Ts) : Option NewRow :=
  (want ops i ts).bind fun o => match o.op with
  | .alloc _ | .box _ _ | .buildSlice _ _ _ => xalloc P (rho ts) o
  | _ => none
theorem one_al {w : NewRow} (hx : alChk P ops i ts = some w) : AOne P ops i ts w := by
  obtain ⟨o, hw, h⟩ := Option.bind_eq_some_iff.1 hx
  obtain ⟨h1, h2⟩ := want_some hw
  cases ho : o.op <;> simp only [ho] at h <;> try (cases h; done)
  all_goals exact ⟨o, h1, h2, by unfold clsOf; rw [ho], h⟩
def mkT (P : Program) (t : TypeId) (sz by_ : Nat) : Bool := match P.underlying t with
      | some (.slice e) => (match P.info? e with
        | some i => (match i.zero with
          | some zz => i.size == sz && i.bytes == by_ && plainB 9 zz && notTuple zz && zz.cells.size == i.size && decide (0 < i.size)
          | none => false)
        | none => false)
      | _ => false
def mkZ (P : Program) (t : TypeId) : Option (List Value) := match P.underlying t with | some (.slice e) => ((P.info? e).bind (·.zero)).map (·.cells.toList) | _ => none
def mkChk (P : Program) (ops : Array Oper) (i : Nat) (ts : Ts) (sz by_ : Nat) : Option (List Value × Int × Int) :=
  (want ops i ts).bind fun o => match o.op with
  | .makeSlice t l c => match mkT P t sz by_, mkZ P t, intOf (rho ts l), intOf (rho ts c) with
    | true, some z, some (_, n), some (_, q) => some (z, n, q)
    | _, _, _, _ => none
  | _ => none
theorem one_mk (sz by_ : Nat) {z : List Value} {n q : Int} {k : Nat} (hx : mkChk P ops i ts sz by_ = some (z, n, q)) (hv : pmk by_ n q = some k) : AOne P ops i ts (sRow k sz (zerosL z k)) := by
  obtain ⟨o, hw, h⟩ := Option.bind_eq_some_iff.1 hx
  obtain ⟨h1, h2⟩ := want_some hw
  cases ho : o.op <;> simp only [ho] at h <;> try (cases h; done)
  rename_i t l c
  split at h
  · rename_i e1 e2 e3 e4
    cases h
    obtain ⟨f, f1, f2⟩ := op_make ho e1 e2 (intOf_eq e3) (intOf_eq e4) hv
    have : f = (sRow k sz (zerosL z k)).val := funext f2
    subst this
    exact ⟨o, h1, h2, by unfold clsOf; rw [ho], f1⟩
  · cases h

/-! #### writes, calls -/
def stChk (P : Program) (ops : Array Oper) (i : Nat) (ts : Ts) : Option (Nat × Nat × List Value) :=
  (want ops i ts).bind fun o => match o.op with
  | .store t a x => match addrOf (rho ts a) with
    | some (b, off) => bif notTuple (rho ts x) && szT P t (rho ts x).cells.toList.length then some (b, off, (rho ts x).cells.toList) else none
    | none => none
  | _ => none
theorem one_st {b off : Nat} {vs : List Value} (hx : stChk P ops i ts = some (b, off, vs)) (hv : stc H b off vs = some H') : SOne P good ops i ts H undef H' := by
  obtain ⟨o, hw, h⟩ := Option.bind_eq_some_iff.1 hx
  obtain ⟨h1, h2⟩ := want_some hw
  cases ho : o.op <;> simp only [ho] at h <;> try (cases h; done)
  rename_i t a x
  cases ha : addrOf (rho ts a) with
  | none => rw [ha] at h; cases h
  | some bo =>
    obtain ⟨b', off'⟩ := bo
    rw [ha] at h
    simp only at h
    cases hc : notTuple (rho ts x) && szT P t (rho ts x).cells.toList.length with
    | false => rw [hc] at h; cases h
    | true =>
      rw [hc] at h
      cases h
      simp only [Bool.and_eq_true] at hc
      exact ⟨o, h1, h2, .inl ⟨by unfold clsOf; rw [ho], op_store ho hc.2 (addrOf_eq ha) rfl hc.1 rfl rfl hv⟩⟩
def apChk (P : Program) (ops : Array Oper) (i : Nat) (ts : Ts) (sz by_ : Nat) : Option ((Option Addr × Nat × Nat) × Option Addr × Nat × Nat) :=
  (want ops i ts).bind fun o => match o.op with
  | .call ⟨.builtin .append, xs, us⟩ => match xs.toList, us.toList with
    | [x, y], [t, u] => match appT P t u sz by_, asSl (rho ts x), asSl (rho ts y) with
      | true, some a, some b => some (a, b)
      | _, _, _ => none
    | _, _ => none
  | _ => none
theorem arr2 {α : Type} {xs : Array α} {x y : α} (h : xs.toList = [x, y]) : xs = #[x, y] := by
  obtain ⟨l⟩ := xs
  simp only at h
  subst h
  rfl
theorem one_ap (sz by_ : Nat) {a a2 a' : Option Addr} {n c n2 c2 n' c' : Nat} (hx : apChk P ops i ts sz by_ = some ((a, n, c), (a2, n2, c2))) (hv : papp H sz by_ a n c a2 n2 c2 = some ((a', n', c'), H')) : SOne P good ops i ts H (.slice a' n' c') H' := by
  obtain ⟨o, hw, h⟩ := Option.bind_eq_some_iff.1 hx
  obtain ⟨h1, h2⟩ := want_some hw
  cases ho : o.op <;> simp only [ho] at h <;> try (cases h; done)
  rename_i cl
  obtain ⟨cal, xs, us⟩ := cl
  cases cal with
  | value f => cases h
  | invoke r m => cases h
  | builtin b =>
    cases b <;> simp only at h <;> try (cases h; done)
    split at h
    · rename_i x y t u e1 e2
      have e1 := arr2 e1
      have e2 := arr2 e2
      subst e1; subst e2
      split at h
      · rename_i f1 f2 f3
        cases h
        exact ⟨o, h1, h2, .inl ⟨by unfold clsOf; rw [ho], op_append ho f1 (asSl_eq f2) (asSl_eq f3) hv⟩⟩
      · cases h
    · cases h
def cpChk (P : Program) (ops : Array Oper) (i : Nat) (ts : Ts) : Option (Nat × (Option Addr × Nat × Nat) × Option Addr × Nat × Nat) :=
  (want ops i ts).bind fun o => match o.op with
  | .call ⟨.builtin .copy, xs, us⟩ => match xs.toList, us.toList with
    | [x, y], [t, u] => match szOf P t, asSl (rho ts x), asSl (rho ts y) with
      | some sz, some a, some b => some (sz, a, b)
      | _, _, _ => none
    | _, _ => none
  | _ => none
theorem one_cp {sz n c n2 c2 k : Nat} {a a2 : Option Addr} (hx : cpChk P ops i ts = some (sz, (a, n, c), (a2, n2, c2))) (hv : pcopy H sz a n c a2 n2 c2 = some (k, H')) : SOne P good ops i ts H (.int .i64 k) H' := by
  obtain ⟨o, hw, h⟩ := Option.bind_eq_some_iff.1 hx
  obtain ⟨h1, h2⟩ := want_some hw
  cases ho : o.op <;> simp only [ho] at h <;> try (cases h; done)
  rename_i cl
  obtain ⟨cal, xs, us⟩ := cl
  cases cal with
  | value f => cases h
  | invoke r m => cases h
  | builtin b =>
    cases b <;> simp only at h <;> try (cases h; done)
    split at h
    · rename_i x y t u e1 e2
      have e1 := arr2 e1
      have e2 := arr2 e2
      subst e1; subst e2
      split at h
      · rename_i f1 f2 f3
        cases h
        exact ⟨o, h1, h2, .inl ⟨by unfold clsOf; rw [ho], op_copy ho (szOf_slc f1) (asSl_eq f2) (asSl_eq f3) hv⟩⟩
      · cases h
    · cases h
def maChk (P : Program) (ops : Array Oper) (i : Nat) (ts : Ts) : Option (Option Addr × Nat × Nat) :=
  (want ops i ts).bind fun o => match o.op with
  | .convert s d x => bif Nat.beq s d && u8T P s then asSl (rho ts x) else none
  | _ => none
theorem one_ma {a : Option Addr} (n c : Nat) (hx : maChk P ops i ts = some (a, n, c)) (hv : pmark H a = some ()) : SOne P good ops i ts H (.slice a n c) H := by
  obtain ⟨o, hw, h⟩ := Option.bind_eq_some_iff.1 hx
  obtain ⟨h1, h2⟩ := want_some hw
  cases ho : o.op <;> simp only [ho] at h <;> try (cases h; done)
  rename_i s d x
  cases hc : Nat.beq s d && u8T P s with
  | false => rw [hc] at h; cases h
  | true =>
    rw [hc] at h
    simp only [Bool.and_eq_true] at hc
    have : s = d := Nat.eq_of_beq_eq_true hc.1
    subst this
    obtain ⟨e, he⟩ := u8T_slc hc.2
    exact ⟨o, h1, h2, .inl ⟨by unfold clsOf; rw [ho]; simp only [he], op_mark ho hc.2 (asSl_eq h) hv⟩⟩
def clChk (P : Program) (ops : Array Oper) (i : Nat) (ts : Ts) : Option (Value × List Value) :=
  (want ops i ts).bind fun o => match o.op with
  | .call ⟨.builtin .clear, xs, us⟩ => match xs.toList, us.toList with
    | [x], [t] => (mkZ P t).map fun z => (rho ts x, z)
    | _, _ => none
  | _ => none
def caChk (P : Program) (ops : Array Oper) (i : Nat) (ts : Ts) : Option (FuncId × List Value) :=
  (want ops i ts).bind fun o => match clsOf P o with
  | .C => xcallee P (rho ts) o
  | _ => none
theorem one_ca {f : FuncId} {args : List Value} (hx : caChk P ops i ts = some (f, args)) (hv : xC P good f args H = some (v, H')) : SOne P good ops i ts H v H' := by
  obtain ⟨o, hw, h⟩ := Option.bind_eq_some_iff.1 hx
  obtain ⟨h1, h2⟩ := want_some hw
  cases hc : clsOf P o <;> rw [hc] at h <;> try (cases h; done)
  exact ⟨o, h1, h2, .inr ⟨hc, f, args, h, hv⟩⟩
def fvChk (ops : Array Oper) (i : Nat) (ts : Ts) : Option (FuncId × List Value) :=
  (want ops i ts).bind fun o => match o.op with
  | .call ⟨.value f, xs, _⟩ => match rho ts f with
    | .func (.func g) first captured => some (g, first.toList ++ xs.toList.map (rho ts) ++ captured.toList)
    | _ => none
  | _ => none
theorem one_fv {f : FuncId} {args : List Value} (hx : fvChk ops i ts = some (f, args)) (hg : fnGoes P f = true) (hv : xC P good f args H = some (v, H')) : SOne P good ops i ts H v H' := by
  obtain ⟨o, hw, h⟩ := Option.bind_eq_some_iff.1 hx
  obtain ⟨h1, h2⟩ := want_some hw
  cases ho : o.op <;> simp only [ho] at h <;> try (cases h; done)
  rename_i cl
  obtain ⟨cal, xs, us⟩ := cl
  cases cal with
  | builtin b => cases h
  | invoke r m => cases h
  | value fo =>
    simp only at h
    split at h
    · rename_i g first captured hf
      cases h
      exact ⟨o, h1, h2, .inr ⟨by unfold clsOf; rw [ho], f, _, by unfold xcallee; simp only [ho, hf, hg, if_true], hv⟩⟩
    · cases h
def ivChk (ops : Array Oper) (i : Nat) (ts : Ts) : Option (TypeId × Value × String × List Value) :=
  (want ops i ts).bind fun o => match o.op with
  | .call ⟨.invoke r name, xs, _⟩ => match rho ts r with
    | .iface t v => some (t, v, name, xs.toList.map (rho ts))
    | _ => none
  | _ => none
theorem one_iv {t : TypeId} {x : Value} {name : String} {args : List Value} {g : FuncId} (hx : ivChk ops i ts = some (t, x, name, args)) (hm : xmethod P t name = some g) (hg : fnGoes P g = true) (hv : xC P good g (x :: args) H = some (v, H')) : SOne P good ops i ts H v H' := by
  obtain ⟨o, hw, h⟩ := Option.bind_eq_some_iff.1 hx
  obtain ⟨h1, h2⟩ := want_some hw
  cases ho : o.op <;> simp only [ho] at h <;> try (cases h; done)
  rename_i cl
  obtain ⟨cal, xs, us⟩ := cl
  cases cal with
  | builtin b => cases h
  | value fo => cases h
  | invoke r m =>
    simp only at h
    split at h
    · rename_i t' x' hf
      cases h
      exact ⟨o, h1, h2, .inr ⟨by unfold clsOf; rw [ho], g, _, by unfold xcallee; simp only [ho, hf, hm, hg, if_true], hv⟩⟩
    · cases h
end
end Go.X
