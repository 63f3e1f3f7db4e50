/- Operations that touch no memory (continued): the whole of them, and that they stand. -/
import Derived.Test.YtomibdncbioijaaXzCoreC
set_option linter.unusedVariables false
set_option linter.unusedSimpArgs false
namespace Go.X
open Go Go.RowKit

def xnil (ud : TypeDesc) (guarded : Bool) (x y : Value) : Option Bool :=
  match ud, x, y with
  | .pointer _, .pointer none, .pointer b => some b.isNone
  | .pointer _, .pointer (some _), .pointer none => some false
  | .slice _, .slice none _ _, .slice b _ _ => some b.isNone
  | .slice _, .slice (some _) _ _, .slice none _ _ => some false
  | .map _ _, .map none, .map b => some b.isNone
  | .map _ _, .map (some _), .map none => some false
  | .func _ _ _, .nilFunc, .nilFunc => some true
  | .func _ _ _, .nilFunc, .func _ _ _ => some false
  | .func _ _ _, .func _ _ _, .nilFunc => some false
  | .interface _, .nilIface, .nilIface => if guarded then some true else none
  | .interface _, .nilIface, .iface _ _ => some false
  | .interface _, .iface _ _, .nilIface => some false
  | _, _, _ => none

def isConstO : Operand → Bool
  | .const _ => true
  | _ => false

/-- What a Sem over plain scalars comes to, if that is one. -/
def evS (P : Program) (s : Sem Value) : Option Value :=
  match ev P s with
  | some v => if scal v then some v else none
  | none => none
theorem evS_run {P : Program} {s : Sem Value} {v : Value} (h : evS P s = some v) : (∀ w, s.run P w = .ok v w) ∧ ∀ m, VRel m v v := by
  unfold evS at h
  cases he : ev P s with
  | none => simp [he] at h
  | some u =>
    simp only [he] at h
    split at h
    · rename_i hs
      cases h
      refine ⟨fun w => ev_run he w, fun m => ?_⟩
      cases v <;> first | exact .bool _ | exact .int _ _ | exact .string _ | cases hs
    · cases h

def xcmp (P : Program) (t : TypeId) (ox oy : Operand) (a b : Value) : Option Bool :=
  match P.underlying t with
  | some ud => match a, b with
    | .agg _, .agg _ => if P.eqGuardType P.depth t then none else xeq P 40 t a b
    | _, _ => xnil ud (isConstO ox || isConstO oy) a b
  | none => none

def xbin (P : Program) (op : BinOp) (t : TypeId) (ox oy : Operand) (a b : Value) : Option Value :=
  if scal a && scal b then evS P (binOp op t a b)
  else
    match op with
    | .eql => (xcmp P t ox oy a b).map .bool
    | .neq => (xcmp P t ox oy a b).map fun r => .bool (!r)
    | _ => none

theorem ev_eqGuard {P : Program} {op : BinOp} {t : TypeId} {x y : Operand} {a b : Value} (hs : scal a = true) (w : World) : (eqGuard op t x y a b).run P w = .ok () w := by
  unfold eqGuard
  cases op <;> simp only [Bool.not_true, Bool.not_false, if_true, Bool.false_eq_true, if_false] <;> first | rfl | (cases a <;> first | rfl | cases hs)

theorem run_eqGuard_aggs {P : Program} {op : BinOp} {t : TypeId} {x y : Operand} {a b : Array Value} (h : P.eqGuardType P.depth t = false) (w : World) :
    (eqGuard op t x y (.agg a) (.agg b)).run P w = .ok () w := by
  unfold eqGuard
  cases op <;> simp only [Bool.not_true, Bool.not_false, if_true, Bool.false_eq_true, if_false] <;> first | rfl | simp [h]

def guardB (g : Bool) : Value → Value → Bool
  | .nilIface, .nilIface => g
  | .agg _, .agg _ => false
  | _, _ => true
theorem run_guard {P : Program} {op : BinOp} {t : TypeId} {ox oy : Operand} {a b : Value} (h : guardB (isConstO ox || isConstO oy) a b = true) (w : World) :
    (eqGuard op t ox oy a b).run P w = .ok () w := by
  unfold eqGuard
  cases op <;> simp only [Bool.not_true, Bool.not_false, if_true, Bool.false_eq_true, if_false] <;> try rfl
  all_goals
    unfold guardB at h
    split at h
    · cases ox <;> cases oy <;> first | rfl | (simp [isConstO] at h; done)
    · cases h
    · rename_i h1 h2
      split
      · exact (h1 rfl rfl).elim
      · exact (h2 _ _ rfl rfl).elim
      · rfl

theorem xnil_guard {ud : TypeDesc} {g : Bool} {a b : Value} {r : Bool} (h : xnil ud g a b = some r) : guardB g a b = true := by
  unfold xnil at h
  split at h <;> first | rfl | (cases h; done) | skip
  · simp at h; exact h.1

theorem xnil_run {P : Program} {t : TypeId} {ud : TypeDesc} (hu : P.underlying t = some ud) {g : Bool} {a b : Value} {r : Bool} (h : xnil ud g a b = some r) (w : World) :
    (Op.equal t a b).run P w = .ok r w := by
  have d1 : Op.maxDepth = 9999 + 1 := rfl
  unfold Op.equal
  rw [d1]
  unfold Op.equalIn
  simp only [Sem.run_bind, run_underlying hu, Result.andThen_ok]
  unfold xnil at h
  split at h <;> first | (simp at h; subst h; rfl) | (simp at h; done) | (simp at h; obtain ⟨_, rfl⟩ := h; rfl)

theorem xnil_rel {m : Plan} {ud : TypeDesc} {g : Bool} {a b a' b' : Value} {r : Bool} (ha : VRel m a a') (hb : VRel m b b') (h : xnil ud g a b = some r) : xnil ud g a' b' = some r := by
  unfold xnil at h
  split at h <;> (try (cases h; done)) <;> cases ha <;> cases hb <;> exact h

theorem xnil_bin {ud : TypeDesc} {g : Bool} {a b : Value} {r : Bool} (h : xnil ud g a b = some r) (t : TypeId) :
    binOp .eql t a b = (do pure (.bool (← Op.equal t a b))) ∧ binOp .neq t a b = (do pure (.bool (!(← Op.equal t a b)))) := by
  unfold xnil at h
  split at h <;> first | exact ⟨rfl, rfl⟩ | cases h

theorem xcmp_run {P : Program} {m : Plan} {op : BinOp} {t : TypeId} {ox oy : Operand} {a b a' b' : Value} {r : Bool} (ha : VRel m a a') (hb : VRel m b b') (h : xcmp P t ox oy a b = some r) :
    (∀ op w, (eqGuard op t ox oy a' b').run P w = .ok () w) ∧ (∀ w, (Op.equal t a' b').run P w = .ok r w) ∧
    binOp .eql t a' b' = (do pure (.bool (← Op.equal t a' b'))) ∧ binOp .neq t a' b' = (do pure (.bool (!(← Op.equal t a' b')))) := by
  unfold xcmp at h
  cases hu : P.underlying t with
  | none => simp [hu] at h
  | some ud =>
    simp only [hu] at h
    split at h
    · split at h
      · cases h
      · rename_i hg
        have hg : P.eqGuardType P.depth t = false := by simpa using hg
        have hr' := (xeq_rel 40).1 _ _ _ _ _ _ h ha hb
        obtain ⟨c', rfl, _⟩ := VRel.agg_iff.1 ha
        obtain ⟨d', rfl, _⟩ := VRel.agg_iff.1 hb
        exact ⟨fun op w => run_eqGuard_aggs hg w, fun w => (xeq_run 40).1 _ _ _ _ hr' Op.maxDepth (by decide) w, rfl, rfl⟩
    · have hr' := xnil_rel ha hb h
      exact ⟨fun op w => run_guard (xnil_guard hr') w, fun w => xnil_run hu hr' w, (xnil_bin hr' t).1, (xnil_bin hr' t).2⟩

theorem xbin_run {P : Program} {m : Plan} {op : BinOp} {t : TypeId} {ox oy : Operand} {a b a' b' v : Value} (ha : VRel m a a') (hb : VRel m b b') (h : xbin P op t ox oy a b = some v) :
    ∃ v', VRel m v v' ∧ ∀ w, (do eqGuard op t ox oy a' b'; binOp op t a' b' : Sem Value).run P w = .ok v' w := by
  unfold xbin at h
  split at h
  · rename_i hs
    simp only [Bool.and_eq_true] at hs
    have e1 := ha.scal hs.1
    have e2 := hb.scal hs.2
    subst e1; subst e2
    exact ⟨v, (evS_run h).2 m, fun w => by simp only [Sem.run_bind, ev_eqGuard hs.1, Result.andThen_ok]; exact (evS_run h).1 w⟩
  · cases op <;> (try (cases h; done))
    · obtain ⟨r, hr, rfl⟩ := Option.map_eq_some_iff.1 h
      obtain ⟨k1, k2, k3, k4⟩ := xcmp_run (op := .eql) ha hb hr
      exact ⟨_, .bool _, fun w => by simp only [Sem.run_bind, k1, Result.andThen_ok, k3, k2, Sem.run_pure]⟩
    · obtain ⟨r, hr, rfl⟩ := Option.map_eq_some_iff.1 h
      obtain ⟨k1, k2, k3, k4⟩ := xcmp_run (op := .neq) ha hb hr
      exact ⟨_, .bool _, fun w => by simp only [Sem.run_bind, k1, Result.andThen_ok, k4, k2, Sem.run_pure]⟩

/-! ### the other pure operations -/
def EMPTY : Value := .slice (some ⟨0, 0, some 0⟩) 0 0

def intArg : Value → Option Int
  | .int _ n => some n
  | _ => none
/-- A bound that is given, or not. -/
def boundOf (d : Nat) : Option Value → Option Nat
  | none => some d
  | some (.int _ n) => if 0 ≤ n then some n.toNat else none
  | some _ => none

def capSub (c l : Nat) : Nat := if 18446744073709551616 ≤ c then c else c - l

def xsliceAt (size b o n c : Nat) (lo hi mx : Option Value) : Option Value :=
  match mx with
  | none => match boundOf 0 lo, boundOf n hi with
    | some l, some h => if l ≤ h ∧ h ≤ n then
        (if l = 0 then some (.slice (some ⟨b, o, none⟩) h c) else if l < n then (if 18446744073709551616 ≤ c ∧ c ≠ UNK size then none else some (.slice (some ⟨b, o + l * size, none⟩) (h - l) (capSub c l))) else some EMPTY) else none
    | _, _ => none
  | some (.int _ q) => match boundOf 0 lo, boundOf n hi with
    | some l, some h => if l ≤ h ∧ (h : Int) ≤ q ∧ q ≤ n ∧ hi.isSome ∧ q < 18446744073709551616 then
        (if l = 0 then some (.slice (some ⟨b, o, none⟩) h q.toNat) else if l < q then some (.slice (some ⟨b, o + l * size, none⟩) (h - l) (q.toNat - l)) else some EMPTY) else none
    | _, _ => none
  | some _ => none

/-- Of a slice without elements: it stays what it is. -/
def xsliceNo (x : Value) (lo hi mx : Option Value) : Option Value :=
  match boundOf 0 lo, boundOf 0 hi, boundOf 0 mx with
    | some l, some h, some c => if l = 0 ∧ h = 0 ∧ c = 0 ∧ (mx.isSome → hi.isSome) then some x else none
    | _, _, _ => none

def xslice (size : Nat) (x : Value) (lo hi mx : Option Value) : Option Value :=
  match x with
  | .slice none n c => if n = 0 ∧ c = 0 then xsliceNo (.slice none 0 0) lo hi mx else none
  | .slice (some a) n c => match a.spot with
    | none => xsliceAt size a.block a.off n c lo hi mx
    | some _ => if n = 0 then xsliceNo (.slice (some a) n c) lo hi mx else none
  | _ => none

/-- A plain zero. -/
def plainB : Nat → Value → Bool
  | 0, _ => false
  | _ + 1, .bool _ | _ + 1, .int _ _ | _ + 1, .string _ | _ + 1, .pointer none | _ + 1, .map none | _ + 1, .nilFunc | _ + 1, .nilIface => true
  | _ + 1, .slice none n c => n == 0 && c == 0
  | _ + 1, .func _ f c => f.toList.isEmpty && c.toList.isEmpty
  | d + 1, .agg c => c.toList.all fun v => v.oneCell' && plainB d v
  | d + 1, .tuple c => c.toList.all fun v => plainB d v
  | d + 1, .iface _ v => plainB d v
  | _ + 1, _ => false
theorem plainB_rel : ∀ (d : Nat) (v : Value), plainB d v = true → Plain v := by
  intro d
  induction d with
  | zero => intro v h; simp [plainB] at h
  | succ d ih =>
    intro v h
    cases v with
    | bool b => exact .bool b
    | int k n => exact .int k n
    | float k b => simp [plainB] at h
    | complex k a b => simp [plainB] at h
    | string s => exact .string s
    | pointer a => cases a with | none => exact .nilptr | some a => simp [plainB] at h
    | slice a n c =>
      cases a with
      | none => simp [plainB] at h; obtain ⟨rfl, rfl⟩ := h; exact .nilslice
      | some a => simp [plainB] at h
    | map r => cases r with | none => exact .nilmap | some r => simp [plainB] at h
    | chan r => simp [plainB] at h
    | func fn f c =>
      simp [plainB] at h
      obtain ⟨h1, h2⟩ := h
      have e1 : f = #[] := by simpa using h1
      have e2 : c = #[] := by simpa using h2
      subst e1; subst e2
      exact .func fn
    | nilFunc => exact .nilFunc
    | iface t v => simp only [plainB] at h; exact .iface (ih v h)
    | nilIface => exact .nilIface
    | agg c =>
      simp only [plainB, List.all_eq_true, Bool.and_eq_true] at h
      have hh : ∀ (i : Nat) (v : Value), c[i]? = some v → v.oneCell' = true ∧ plainB d v = true := fun i v hv => h v (List.mem_of_getElem? (by simpa using hv))
      exact .agg (fun i v hv => (hh i v hv).1) (fun i v hv => ih v (hh i v hv).2)
    | tuple c =>
      simp only [plainB, List.all_eq_true] at h
      exact .tuple (fun i v hv => ih v (h v (List.mem_of_getElem? (by simpa using hv))))

def xpure (P : Program) (ρ : Operand → Value) (o : Oper) : Option Value :=
  match o.op with
  | .move x | .assign x => some (ρ x)
  | .pick c a b => match ρ c with
    | .bool t => some (if t then ρ a else ρ b)
    | _ => none
  | .nilCheck x => match ρ x with
    | .pointer (some a) => some (.pointer (some a))
    | .iface t v => some (.iface t v)
    | .func (.func f) first captured => some (.func (.func f) first captured)
    | _ => none
  | .binOp op t x y _ => xbin P op t x y (ρ x) (ρ y)
  | .unOp op _ x => if scal (ρ x) then evS P (Op.unary op (ρ x)) else none
  | .convert s d x => if scal (ρ x) then evS P (convert s d (ρ x)) else none
  | .makeInterface t x => match P.underlying t with
    | some (.interface _) | none => none
    | some _ => some (.iface t (ρ x))
  | .makeFunc fn first captured => some (.func fn (first.map ρ) (captured.map ρ))
  | .extract t i => match ρ t with
    | .tuple vs => vs[i]?
    | _ => none
  | .field t x f => match P.underlying t, ρ x with
    | some (.struct fs), .agg cs => match fs[f]? with
      | some fd => partA P fd.type cs fd.offset
      | none => none
    | _, _ => none
  | .index t x ix => match P.underlying t, ρ x, ρ ix with
    | some (.array n e), .agg cs, .int _ i => if 0 ≤ i ∧ i < n then (match P.info? e with
      | some inf => partA P e cs (i.toNat * inf.size)
      | none => none) else none
    | some .string, .string s, .int _ i => if 0 ≤ i then (s[i.toNat]?).map fun b => .int .u8 b.toNat else none
    | _, _, _ => none
  | .fieldAddr t x f => match P.underlying t, ρ x with
    | some (.struct fs), .pointer (some ⟨b, o, none⟩) => match fs[f]? with
      | some fd => match P.info? fd.type with
        | some inf => if inf.size = 0 then none else some (.pointer (some ⟨b, o + fd.offset, none⟩))
        | none => none
      | none => none
    | _, _ => none
  | .indexAddr t x ix => match P.underlying t, ρ x, ρ ix with
    | some (.slice e), .slice (some ⟨b, o, none⟩) n _, .int _ i => if 0 ≤ i ∧ i < n then (P.info? e).map fun inf => .pointer (some ⟨b, o + i.toNat * inf.size, none⟩) else none
    | some (.array n e), .pointer (some ⟨b, o, none⟩), .int _ i => if 0 ≤ i ∧ i < n then (P.info? e).map fun inf => .pointer (some ⟨b, o + i.toNat * inf.size, none⟩) else none
    | _, _, _ => none
  | .slice t x lo hi mx => match P.underlying t with
    | some .string => match ρ x, boundOf 0 (lo.map ρ), boundOf (match ρ x with | .string s => s.size | _ => 0) (hi.map ρ), mx with
      | .string s, some l, some h, none => if l ≤ h ∧ h ≤ s.size then some (.string (s.extract l h)) else none
      | _, _, _, _ => none
    | some (.slice e) => match P.info? e with
      | some inf => xslice inf.size (ρ x) (lo.map ρ) (hi.map ρ) (mx.map ρ)
      | none => none
    | some (.array n e) => match P.info? e, ρ x, boundOf 0 (lo.map ρ), boundOf n (hi.map ρ), mx with
      | some inf, .pointer (some ⟨b, o, none⟩), some l, some h, none => if l ≤ h ∧ h ≤ n ∧ l < n ∧ n ≤ 1000000 then some (.slice (some ⟨b, o + l * inf.size, none⟩) (h - l) (n - l)) else none
      | _, _, _, _, _ => none
    | _ => none
  | .typeAssert x _ asserted ok => match P.underlying asserted, ρ x with
    | some (.interface _), _ => none
    | some _, .iface t v => if t = asserted then some (if ok then .tuple #[v, .bool true] else v)
        else if ok then (match P.info? asserted with
          | some inf => match inf.zero with
            | some z => if plainB 9 z then some (.tuple #[z, .bool false]) else none
            | none => none
          | none => none) else none
    | some _, .nilIface => if ok then (match P.info? asserted with
          | some inf => match inf.zero with
            | some z => if plainB 9 z then some (.tuple #[z, .bool false]) else none
            | none => none
          | none => none) else none
    | _, _ => none
  | .call c => match c.callee with
    | .builtin .len => match (c.argTypes[0]?).bind P.underlying, c.args.toList.map ρ with
      | some (.slice _), [.slice _ n _] => some (.int .i64 n)
      | some .string, [.string s] => some (.int .i64 s.size)
      | some (.array n _), [_] => some (.int .i64 n)
      | _, _ => none
    | .builtin .min => if (c.args.toList.map ρ).all scal then evS P (Builtin.min_ c.argTypes o.type (c.args.map ρ)) else none
    | .builtin .max => if (c.args.toList.map ρ).all scal then evS P (Builtin.max_ c.argTypes o.type (c.args.map ρ)) else none
    | _ => none
  | _ => none

/-! ### they stand -/
theorem rho_map {m : Plan} {ρ ρ' : Operand → Value} (xs : Array Operand) (h : ∀ x ∈ xs.toList, VRel m (ρ x) (ρ' x)) : ARel m (xs.map ρ) (xs.map ρ') := by
  simp only [ARel, Array.toList_map]
  exact LRel.map _ _ _ h

theorem boundOf_run {P : Program} {v v' : Option Value} {m : Plan} (hv : ∀ x, v = some x → ∃ x', v' = some x' ∧ VRel m x x') (hn : v = none → v' = none) {d l : Nat} (h : boundOf d v = some l) :
    (v' = none ∧ v = none ∧ l = d) ∨ ∃ k n, v' = some (.int k n) ∧ v = some (.int k n) ∧ 0 ≤ n ∧ l = n.toNat := by
  cases v with
  | none => simp [boundOf] at h; exact .inl ⟨hn rfl, rfl, h.symm⟩
  | some x =>
    obtain ⟨x', hx', hr⟩ := hv x rfl
    cases x <;> simp [boundOf] at h
    rename_i k n
    cases hr
    exact .inr ⟨k, n, hx', rfl, h.1, h.2.symm⟩

theorem run_sliceBound {P : Program} {k : IntKind} {n : Int} {y : Nat} {code : BoundsCode} (h0 : 0 ≤ n) (h1 : n ≤ y) (w : World) : (Instr.sliceBound (.int k n) y code).run P w = .ok n.toNat w := by
  simp [Instr.sliceBound, asIntOf, h0, h1]

/-- The bounds of a slice expression without a third one. -/
theorem run_sliceBounds2 {P : Program} {isS : Bool} {len cap : Nat} {lo hi : Option Value} {l h : Nat}
    (hl : (lo = none ∧ l = 0) ∨ ∃ k n, lo = some (.int k n) ∧ 0 ≤ n ∧ l = n.toNat) (hh : (hi = none ∧ h = len) ∨ ∃ k n, hi = some (.int k n) ∧ 0 ≤ n ∧ h = n.toNat)
    (hlh : l ≤ h) (hhc : h ≤ cap) (w : World) : (Instr.sliceBounds isS len cap lo hi none).run P w = .ok (l, h, cap) w := by
  unfold Instr.sliceBounds
  rcases hh with ⟨rfl, rfl⟩ | ⟨k, n, rfl, hn0, rfl⟩
  · rcases hl with ⟨rfl, rfl⟩ | ⟨k', n', rfl, hn0', rfl⟩
    · simp
    · simp [run_sliceBound hn0' (show n' ≤ (h : Int) by omega)]
  · rcases hl with ⟨rfl, rfl⟩ | ⟨k', n', rfl, hn0', rfl⟩
    · simp [run_sliceBound hn0 (show n ≤ (cap : Int) by omega)]
    · simp [run_sliceBound hn0 (show n ≤ (cap : Int) by omega), run_sliceBound hn0' (show n' ≤ (n.toNat : Int) by omega)]
theorem run_sliceBounds3 {P : Program} {isS : Bool} {len cap : Nat} {lo : Option Value} {kh : IntKind} {hn : Int} {km : IntKind} {q : Int} {l : Nat}
    (hl : (lo = none ∧ l = 0) ∨ ∃ k n, lo = some (.int k n) ∧ 0 ≤ n ∧ l = n.toNat) (h0 : 0 ≤ hn) (hlh : l ≤ hn.toNat) (hhq : hn ≤ q) (hqc : q ≤ cap) (w : World) :
    (Instr.sliceBounds isS len cap lo (some (.int kh hn)) (some (.int km q))).run P w = .ok (l, hn.toNat, q.toNat) w := by
  unfold Instr.sliceBounds
  rcases hl with ⟨rfl, rfl⟩ | ⟨k', n', rfl, hn0', rfl⟩
  · simp [run_sliceBound (show 0 ≤ q by omega) hqc, run_sliceBound h0 (show hn ≤ (q.toNat : Int) by omega)]
  · simp [run_sliceBound (show 0 ≤ q by omega) hqc, run_sliceBound h0 (show hn ≤ (q.toNat : Int) by omega), run_sliceBound hn0' (show n' ≤ (hn.toNat : Int) by omega)]

/-- Optional operands, side by side. -/
def OpRel (m : Plan) (v v' : Option Value) : Prop := (v = none ∧ v' = none) ∨ ∃ x x', v = some x ∧ v' = some x' ∧ VRel m x x'
theorem OpRel.bound {m : Plan} {v v' : Option Value} (hr : OpRel m v v') {d l : Nat} (h : boundOf d v = some l) :
    (v' = none ∧ v = none ∧ l = d) ∨ ∃ k n, v' = some (.int k n) ∧ v = some (.int k n) ∧ 0 ≤ n ∧ l = n.toNat := by
  rcases hr with ⟨rfl, rfl⟩ | ⟨x, x', rfl, rfl, hr⟩
  · simp [boundOf] at h; exact .inl ⟨rfl, rfl, h.symm⟩
  · cases x <;> simp [boundOf] at h
    rename_i k n
    cases hr
    exact .inr ⟨k, n, rfl, rfl, h.1, h.2.symm⟩

theorem xslice_run {P : Program} {m : Plan} {t e : TypeId} {inf : TypeInfo} (ht : P.underlying t = some (.slice e)) (hi : P.info? e = some inf) {x x' v : Value} {lo lo' hi' hi2 mx mx' : Option Value}
    (hx : VRel m x x') (h1 : OpRel m lo lo') (h2 : OpRel m hi' hi2) (h3 : OpRel m mx mx') (h : xslice inf.size x lo hi' mx = some v) :
    ∃ v', VRel m v v' ∧ ∀ w, (Instr.slice t x' lo' hi2 mx').run P w = .ok v' w := by
  have no : ∀ (a' : Option Addr) (c' : Nat) (y y' : Value), xsliceNo y lo hi' mx = some v → VRel m y (.slice a' 0 c') → (c' = 0 ∨ True) → VRel m y (.slice a' 0 0) →
      ∃ v', VRel m v v' ∧ ∀ w, (Instr.slice t (.slice a' 0 c') lo' hi2 mx').run P w = .ok v' w := by
    intro a' c' y y' hno hy _ hy0
    unfold xsliceNo at hno
    cases hl : boundOf 0 lo with
    | none => simp [hl] at hno
    | some l =>
      cases hh : boundOf 0 hi' with
      | none => simp [hl, hh] at hno
      | some hb =>
        cases hm : boundOf 0 mx with
        | none => simp [hl, hh, hm] at hno
        | some q =>
          simp only [hl, hh, hm] at hno
          split at hno
          · rename_i hz
            obtain ⟨rfl, rfl, rfl, himp⟩ := hz
            cases hno
            have bl := h1.bound hl
            have bh := h2.bound hh
            rcases h3.bound hm with ⟨rfl, rfl, _⟩ | ⟨k, n, rfl, rfl, hn0, hn⟩
            · refine ⟨_, hy, fun w => ?_⟩
              have hb2 := run_sliceBounds2 (P := P) (isS := true) (len := 0) (cap := c') (lo := lo') (hi := hi2) (l := 0) (h := 0)
                (by rcases bl with ⟨a, _, b⟩ | ⟨k, n, a, _, c, d⟩; exact .inl ⟨a, rfl⟩; exact .inr ⟨k, n, a, c, d⟩)
                (by rcases bh with ⟨a, _, b⟩ | ⟨k, n, a, _, c, d⟩; exact .inl ⟨a, rfl⟩; exact .inr ⟨k, n, a, c, d⟩) (Nat.le_refl _) (Nat.zero_le _) w
              simp only [Instr.slice, Sem.run_bind, run_underlying ht, Result.andThen_ok, hb2, sizeOf, typeInfo, run_program, hi, Sem.run_pure]
              cases a' <;> simp [Addr.add]
            · obtain ⟨kh, nh, rfl, rfl, hh0, hhn⟩ : ∃ k n, hi2 = some (.int k n) ∧ hi' = some (.int k n) ∧ 0 ≤ n ∧ 0 = n.toNat := by
                rcases bh with ⟨a, b, _⟩ | ⟨k, n, a, b, c, d⟩
                · rw [b] at himp; simp at himp
                · exact ⟨k, n, a, b, c, d⟩
              refine ⟨_, hy0, fun w => ?_⟩
              have hb3 := run_sliceBounds3 (P := P) (isS := true) (len := 0) (cap := c') (lo := lo') (kh := kh) (hn := nh) (km := k) (q := n) (l := 0)
                (by rcases bl with ⟨a, _, b⟩ | ⟨k, n, a, _, c, d⟩; exact .inl ⟨a, rfl⟩; exact .inr ⟨k, n, a, c, d⟩) hh0 (by omega) (by omega) (by omega) w
              simp only [Instr.slice, Sem.run_bind, run_underlying ht, Result.andThen_ok, hb3, sizeOf, typeInfo, run_program, hi, Sem.run_pure]
              have e1 : nh.toNat = 0 := hhn.symm
              have e2 : n.toNat = 0 := hn.symm
              rw [e1, e2]
              cases a' <;> simp [Addr.add]
          · cases hno
  unfold xslice at h
  cases hx with
  | bool | int | string | nilptr | ptr | nilmap | map | func | nilFunc | nilIface | iface | agg | tuple => cases h
  | nilslice => simp only [and_self, if_true] at h; exact no none 0 _ (.slice none 0 0) h .nilslice (.inl rfl) .nilslice
  | empty hc => simp only [if_true] at h; exact no (some _) _ _ (.slice none 0 0) h (.empty hc) (.inr trivial) (.empty (by simp [maxLen]))
  | slice hb hn hc hu hk =>
    rename_i b o n c c' en
    simp only at h
    unfold xsliceAt at h
    rcases h3 with ⟨rfl, rfl⟩ | ⟨q, q', rfl, rfl, hq⟩
    · simp only at h
      cases hl : boundOf 0 lo with
      | none => simp [hl] at h
      | some l =>
        cases hh : boundOf n hi' with
        | none => simp [hl, hh] at h
        | some hb' =>
          simp only [hl, hh] at h
          split at h
          · rename_i hz
            have bl := h1.bound hl
            have bh := h2.bound hh
            have hb2 := fun w => run_sliceBounds2 (P := P) (isS := true) (len := n) (cap := c') (lo := lo') (hi := hi2) (l := l) (h := hb')
                (by rcases bl with ⟨a, _, b⟩ | ⟨k, n, a, _, c, d⟩; exact .inl ⟨a, b⟩; exact .inr ⟨k, n, a, c, d⟩)
                (by rcases bh with ⟨a, _, b⟩ | ⟨k, n, a, _, c, d⟩; exact .inl ⟨a, b⟩; exact .inr ⟨k, n, a, c, d⟩) hz.1 (by omega) w
            split at h
            · rename_i hl0
              cases h
              subst hl0
              refine ⟨.slice (some (en.a.add o)) hb' c', .slice hb (by omega) hc hu hk, fun w => ?_⟩
              simp only [Instr.slice, Sem.run_bind, run_underlying ht, Result.andThen_ok, hb2, sizeOf, typeInfo, run_program, hi, Sem.run_pure]
              simp [Addr.add]
            · rename_i hl0
              split at h
              · rename_i hln
                split at h
                · cases h
                · rename_i hcu
                  cases h
                  have hcu' : 18446744073709551616 ≤ c → c = UNK inf.size := fun hw => Classical.byContradiction fun hne => hcu ⟨hw, hne⟩
                  refine ⟨.slice (some (en.a.add (o + l * inf.size))) (hb' - l) (c' - l), .slice hb (by omega) (by omega) (fun hw => ?_) (fun hw => ?_), fun w => ?_⟩
                  · have hcw : 18446744073709551616 ≤ c := by unfold capSub at hw; split at hw <;> omega
                    have e1 := hcu' hcw
                    have e2 := hu hcw
                    unfold capSub
                    rw [if_pos hcw]
                    rw [e1] at e2 ⊢
                    simp only [UNK, Nat.add_sub_cancel_left] at e2 ⊢
                    have : l * inf.size + (c' - l) * inf.size = c' * inf.size := by rw [← Nat.add_mul]; congr 1; omega
                    omega
                  · unfold capSub at hw ⊢
                    split at hw
                    · omega
                    · rename_i hcl
                      rw [if_neg hcl, hk (by omega)]
                  · simp only [Instr.slice, Sem.run_bind, run_underlying ht, Result.andThen_ok, hb2, sizeOf, typeInfo, run_program, hi, Sem.run_pure]
                    rw [if_neg (by omega)]
                    simp [add_add]
              · rename_i hln
                cases h
                have hbl : hb' = l := by omega
                refine ⟨.slice (if c' = l then some (en.a.add o) else (some (en.a.add o)).map (·.add (l * inf.size))) (hb' - l) (c' - l), ?_, fun w => ?_⟩
                rotate_left
                · simp only [Instr.slice, Sem.run_bind, run_underlying ht, Result.andThen_ok, hb2, sizeOf, typeInfo, run_program, hi, Sem.run_pure]
                · rw [hbl, Nat.sub_self]
                  split
                  · exact .empty (by omega)
                  · exact .empty (by omega)
          · cases h
    · cases q <;> simp only [] at h <;> try (cases h; done)
      cases hq
      rename_i km q
      cases hl : boundOf 0 lo with
      | none => simp [hl] at h
      | some l =>
        cases hh : boundOf n hi' with
        | none => simp [hl, hh] at h
        | some hb' =>
          simp only [hl, hh] at h
          split at h
          · rename_i hz
            obtain ⟨z1, z2, z3, z4, z5⟩ := hz
            have bl := h1.bound hl
            obtain ⟨kh, nh, rfl, rfl, hh0, rfl⟩ : ∃ k n, hi2 = some (.int k n) ∧ hi' = some (.int k n) ∧ 0 ≤ n ∧ hb' = n.toNat := by
              rcases h2.bound hh with ⟨a, b, _⟩ | ⟨k, n, a, b, c, d⟩
              · rw [b] at z4; simp at z4
              · exact ⟨k, n, a, b, c, d⟩
            have hb3 := fun w => run_sliceBounds3 (P := P) (isS := true) (len := n) (cap := c') (lo := lo') (kh := kh) (hn := nh) (km := km) (q := q) (l := l)
                (by rcases bl with ⟨a, _, b⟩ | ⟨k, n, a, _, c, d⟩; exact .inl ⟨a, b⟩; exact .inr ⟨k, n, a, c, d⟩) hh0 (by omega) (by omega) (by omega) w
            split at h
            · rename_i hl0
              cases h
              subst hl0
              refine ⟨.slice (some (en.a.add o)) nh.toNat q.toNat, .slice hb (by omega) (by omega) (by omega) (by omega), fun w => ?_⟩
              simp only [Instr.slice, Sem.run_bind, run_underlying ht, Result.andThen_ok, hb3, sizeOf, typeInfo, run_program, hi, Sem.run_pure]
              simp [Addr.add]
            · rename_i hl0
              split at h
              · rename_i hln
                cases h
                refine ⟨.slice (some (en.a.add (o + l * inf.size))) (nh.toNat - l) (q.toNat - l), .slice hb (by omega) (by omega) (by omega) (by omega), fun w => ?_⟩
                simp only [Instr.slice, Sem.run_bind, run_underlying ht, Result.andThen_ok, hb3, sizeOf, typeInfo, run_program, hi, Sem.run_pure]
                rw [if_neg (by omega)]
                simp [add_add]
              · rename_i hln
                cases h
                refine ⟨.slice (if q.toNat = l then some (en.a.add o) else (some (en.a.add o)).map (·.add (l * inf.size))) (nh.toNat - l) (q.toNat - l), ?_, fun w => ?_⟩
                rotate_left
                · simp only [Instr.slice, Sem.run_bind, run_underlying ht, Result.andThen_ok, hb3, sizeOf, typeInfo, run_program, hi, Sem.run_pure]
                · rw [show nh.toNat - l = 0 by omega]
                  split
                  · exact .empty (by omega)
                  · exact .empty (by omega)
          · cases h

end Go.X
