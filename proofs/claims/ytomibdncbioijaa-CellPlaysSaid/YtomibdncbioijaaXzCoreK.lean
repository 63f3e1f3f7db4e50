/- A region whose order is left open: it stands in every order. -/
import Derived.Test.YtomibdncbioijaaXzCoreJ
set_option linter.unusedVariables false
set_option linter.unusedSimpArgs false
namespace Go.X
open Go Go.RowKit

/-! ### values held against each other -/
def v1eq : Value → Value → Bool
  | .bool a, .bool b => a == b
  | .int k a, .int k' b => k == k' && a == b
  | .string a, .string b => a.data.toList == b.data.toList
  | .pointer a, .pointer b => a == b
  | .slice a n c, .slice b n' c' => a == b && n == n' && c == c'
  | .map a, .map b => a == b
  | .nilFunc, .nilFunc => true
  | .nilIface, .nilIface => true
  | _, _ => false
def lEq : List Value → List Value → Bool
  | [], [] => true
  | a :: l, b :: l' => v1eq a b && lEq l l'
  | _, _ => false
def vEq : Value → Value → Bool
  | .agg a, .agg b => lEq a.toList b.toList
  | .func fn f c, .func fn' f' c' => fn == fn' && lEq f.toList f'.toList && lEq c.toList c'.toList
  | .iface t v, .iface t' v' => t == t' && (v1eq v v' || (match v, v' with
    | .agg a, .agg b => lEq a.toList b.toList
    | _, _ => false))
  | a, b => v1eq a b
theorem v1eq_eq {a b : Value} (h : v1eq a b = true) : a = b := by
  unfold v1eq at h
  split at h <;> first
    | (simp at h; done)
    | rfl
    | (simp only [Bool.and_eq_true, beq_iff_eq] at h; obtain ⟨h1, h2⟩ := h; subst h1; subst h2; rfl)
    | (simp only [Bool.and_eq_true, beq_iff_eq] at h; obtain ⟨⟨h1, h2⟩, h3⟩ := h; subst h1; subst h2; subst h3; rfl)
    | (rename_i x y; simp only [beq_iff_eq] at h; obtain ⟨⟨x⟩⟩ := x; obtain ⟨⟨y⟩⟩ := y; simp only at h; subst h; rfl)
    | (simp only [beq_iff_eq] at h; subst h; rfl)
theorem lEq_eq : ∀ {a b : List Value}, lEq a b = true → a = b
  | [], [], _ => rfl
  | [], _ :: _, h => by simp [lEq] at h
  | _ :: _, [], h => by simp [lEq] at h
  | a :: l, b :: l', h => by
    simp only [lEq, Bool.and_eq_true] at h
    rw [v1eq_eq h.1, lEq_eq h.2]
theorem vEq_eq {a b : Value} (h : vEq a b = true) : a = b := by
  unfold vEq at h
  split at h
  · rw [Array.toList_inj.1 (lEq_eq h)]
  · simp only [Bool.and_eq_true, beq_iff_eq] at h
    obtain ⟨⟨h1, h2⟩, h3⟩ := h
    rw [h1, Array.toList_inj.1 (lEq_eq h2), Array.toList_inj.1 (lEq_eq h3)]
  · simp only [Bool.and_eq_true, Bool.or_eq_true, beq_iff_eq] at h
    obtain ⟨rfl, h | h⟩ := h
    · rw [v1eq_eq h]
    · split at h
      · rw [Array.toList_inj.1 (lEq_eq h)]
      · cases h
  · exact v1eq_eq h

/-! ### the text's order, its memory set aside -/
structure DS where
  ts : Ts
  G : List Heap
  rows : List (Nat × NewRow)
  prev : Option Nat
  v : Value
  rds : List (Nat × Ts × Value)

def noHeap : Heap := ⟨0, .leaf⟩
def setRows (base : Nat) (H : Heap) : List (Nat × NewRow) → Heap
  | [] => H
  | x :: l => setRows base (H.set (base + x.1) (.row x.2.cs true)) l
def cur (b : Array Nat) (i : Option Nat) (j : Nat) : Bool :=
  match i with
  | some i => bB b i j
  | none => true
def was (b : Array Nat) (p : Option Nat) (j : Nat) : Bool :=
  match p with
  | some p => bB b p j
  | none => false
def pickRows (b : Array Nat) (rows : List (Nat × NewRow)) (i p : Option Nat) : List (Nat × NewRow) := rows.filter fun x => cur b i x.1 && !was b p x.1
def reserve (H : Heap) : Nat → Heap
  | 0 => H
  | n + 1 => (reserve H n).push .dead
def nRes (P : Program) (ops : Array Oper) : Nat := if (List.range ops.size).any (fun i => isAOf P ops i && !serOf P ops i) then ops.size else 0

def dstep (P : Program) (call : FuncId → List Value → Heap → Option (Value × Heap)) (ops : Array Oper) (b : Array Nat) (base i : Nat) (σ : DS) : Option DS :=
  match ops[i]? with
  | none => none
  | some o =>
    if Region.wanted o (yieldedL ops σ.ts) then
      match clsOf P o with
      | .P => match xP P (rho σ.ts) o with
        | some v => some { σ with ts := putL σ.ts o.dst v, v := v }
        | none => none
      | .R => match xread P (rho σ.ts) (σ.G.getD (cnt (fun j => serOf P ops j && bB b i j) ops.size) noHeap) o with
        | some v => some { σ with ts := putL σ.ts o.dst v, v := v, rds := if cnt (fun j => serOf P ops j && bB b i j) ops.size < cnt (fun j => serOf P ops j && !bB b j i) ops.size then σ.rds ++ [(i, σ.ts, v)] else σ.rds }
        | none => none
      | .A => match xalloc P (rho σ.ts) o with
        | some r => if serOf P ops i then
            some { σ with ts := putL σ.ts o.dst (r.val (setRows base (σ.G.getLastD noHeap) (pickRows b σ.rows (some i) σ.prev)).next), v := r.val (setRows base (σ.G.getLastD noHeap) (pickRows b σ.rows (some i) σ.prev)).next, G := σ.G ++ [(setRows base (σ.G.getLastD noHeap) (pickRows b σ.rows (some i) σ.prev)).push (.row r.cs true)], prev := some i }
          else some { σ with ts := putL σ.ts o.dst (r.val (base + i)), v := r.val (base + i), rows := σ.rows ++ [(i, r)] }
        | none => none
      | .S => match xser P (rho σ.ts) (setRows base (σ.G.getLastD noHeap) (pickRows b σ.rows (some i) σ.prev)) o with
        | some (v, H') => some { σ with ts := putL σ.ts o.dst v, v := v, G := σ.G ++ [H'], prev := some i }
        | none => none
      | .C => match xcallee P (rho σ.ts) o with
        | some (f, args) => match call f args (setRows base (σ.G.getLastD noHeap) (pickRows b σ.rows (some i) σ.prev)) with
          | some (v, H') => some { σ with ts := putL σ.ts o.dst v, v := v, G := σ.G ++ [H'], prev := some i }
          | none => none
        | none => none
    else if serOf P ops i then
      some { σ with ts := putL σ.ts o.dst undef, v := undef, G := σ.G ++ [setRows base (σ.G.getLastD noHeap) (pickRows b σ.rows (some i) σ.prev)], prev := some i }
    else some { σ with ts := putL σ.ts o.dst undef, v := undef }

def drun (P : Program) (call : FuncId → List Value → Heap → Option (Value × Heap)) (ops : Array Oper) (b : Array Nat) (base : Nat) : Nat → Nat → DS → Option DS
  | 0, _, σ => some σ
  | k + 1, i, σ => match dstep P call ops b base i σ with
    | some σ' => drun P call ops b base k (i + 1) σ'
    | none => none

def rdOk (P : Program) (ops : Array Oper) (b : Array Nat) (G : List Heap) (x : Nat × Ts × Value) : Bool :=
  match ops[x.1]? with
  | none => false
  | some o => (List.range (ops.size + 1)).all fun c =>
      decide (c ≤ cnt (fun j => serOf P ops j && bB b x.1 j) ops.size) || decide (cnt (fun j => serOf P ops j && !bB b j x.1) ops.size < c) ||
      (match xread P (rho x.2.1) (G.getD c noHeap) o with
      | some u => vEq u x.2.2
      | none => false)

def xdraw (P : Program) (call : FuncId → List Value → Heap → Option (Value × Heap)) (ops : Array Oper) (ts : Ts) (H : Heap) : Option (Ts × Heap) :=
  match drun P call ops (Region.before ops) H.next ops.size 0 ⟨ts, [reserve H (nRes P ops)], [], none, undef, []⟩ with
  | none => none
  | some σ => if σ.rds.all (rdOk P ops (Region.before ops) σ.G) then
      some (σ.ts, setRows H.next (σ.G.getLastD noHeap) (pickRows (Region.before ops) σ.rows none σ.prev)) else none
end Go.X
