/- An abstract heap, and how a value and a heap of it lie in a world of the model. -/
import Derived.Orders
import Derived.Below
import Derived.Laws.AppendOwn
import Derived.Laws.Sem
import Derived.Laws.World
set_option linter.unusedVariables false
set_option linter.unusedSimpArgs false
namespace Go.X
open Go Go.RowKit

/-! ### the abstract heap -/
inductive AObj where
  | dead
  | row (cs : List Value) (own : Bool)
  | map (es : List (Value × Value))
  deriving Inhabited

inductive Tri where
  | leaf
  | node (l : Tri) (o : AObj) (r : Tri)

def Tri.get : Tri → Nat → AObj
  | .leaf, _ => .dead
  | .node l o r, n => if n = 0 then o else if n % 2 = 1 then l.get (n / 2) else r.get (n / 2 - 1)

def Tri.setF : Nat → Tri → Nat → AObj → Tri
  | 0, t, _, _ => t
  | k + 1, .leaf, n, x => if n = 0 then .node .leaf x .leaf else if n % 2 = 1 then .node (Tri.setF k .leaf (n / 2) x) .dead .leaf else .node .leaf .dead (Tri.setF k .leaf (n / 2 - 1) x)
  | k + 1, .node l o r, n, x => if n = 0 then .node l x r else if n % 2 = 1 then .node (Tri.setF k l (n / 2) x) o r else .node l o (Tri.setF k r (n / 2 - 1) x)

theorem Tri.get_setF : ∀ (k : Nat) (t : Tri) (n : Nat) (x : AObj) (i : Nat), n < k → (Tri.setF k t n x).get i = if i = n then x else t.get i := by
  intro k
  induction k with
  | zero => intro t n x i h; omega
  | succ k ih =>
    intro t n x i h
    cases t with
    | leaf =>
      simp only [Tri.setF]
      by_cases hn : n = 0
      · subst hn; simp [Tri.get]
      · simp only [hn, if_false]
        by_cases hp : n % 2 = 1
        · simp only [hp, if_true, Tri.get]
          by_cases hi : i = 0
          · subst hi; simp; intro h; omega
          · simp only [hi, if_false]
            by_cases hq : i % 2 = 1
            · simp only [hq, if_true]
              rw [ih _ _ _ _ (by omega)]
              by_cases e : i = n
              · subst e; simp
              · rw [if_neg (by omega), if_neg e]; rfl
            · simp only [hq, if_false]
              rw [if_neg (by omega)]
        · simp only [hp, if_false, Tri.get]
          by_cases hi : i = 0
          · subst hi; simp; intro h; omega
          · simp only [hi, if_false]
            by_cases hq : i % 2 = 1
            · simp only [hq, if_true]
              rw [if_neg (by omega)]
            · simp only [hq, if_false]
              rw [ih _ _ _ _ (by omega)]
              by_cases e : i = n
              · subst e; simp
              · rw [if_neg (by omega), if_neg e]; rfl
    | node l o r =>
      simp only [Tri.setF]
      by_cases hn : n = 0
      · subst hn; by_cases hi : i = 0 <;> simp [Tri.get, hi]
      · simp only [hn, if_false]
        by_cases hp : n % 2 = 1
        · simp only [hp, if_true, Tri.get]
          by_cases hi : i = 0
          · subst hi; rw [if_pos rfl, if_neg (by omega), if_pos rfl]
          · simp only [hi, if_false]
            by_cases hq : i % 2 = 1
            · simp only [hq, if_true]
              rw [ih _ _ _ _ (by omega)]
              by_cases e : i = n
              · subst e; simp
              · rw [if_neg (by omega), if_neg e]
            · simp only [hq, if_false]
              rw [if_neg (by omega)]
        · simp only [hp, if_false, Tri.get]
          by_cases hi : i = 0
          · subst hi; rw [if_pos rfl, if_neg (by omega), if_pos rfl]
          · simp only [hi, if_false]
            by_cases hq : i % 2 = 1
            · simp only [hq, if_true]
              rw [if_neg (by omega)]
            · simp only [hq, if_false]
              rw [ih _ _ _ _ (by omega)]
              by_cases e : i = n
              · subst e; simp
              · rw [if_neg (by omega), if_neg e]

structure Heap where
  next : Nat
  t : Tri

def Heap.get (H : Heap) (b : Nat) : AObj := H.t.get b
def Heap.set (H : Heap) (b : Nat) (o : AObj) : Heap := ⟨H.next, Tri.setF (b + 1) H.t b o⟩
def Heap.push (H : Heap) (o : AObj) : Heap := ⟨H.next + 1, Tri.setF (H.next + 1) H.t H.next o⟩
def Heap.empty : Heap := ⟨0, .leaf⟩

@[simp] theorem Heap.next_set (H : Heap) (b : Nat) (o : AObj) : (H.set b o).next = H.next := rfl
@[simp] theorem Heap.next_push (H : Heap) (o : AObj) : (H.push o).next = H.next + 1 := rfl
theorem Heap.get_set (H : Heap) (b : Nat) (o : AObj) (i : Nat) : (H.set b o).get i = if i = b then o else H.get i := Tri.get_setF _ _ _ _ _ (by omega)
theorem Heap.get_push (H : Heap) (o : AObj) (i : Nat) : (H.push o).get i = if i = H.next then o else H.get i := Tri.get_setF _ _ _ _ _ (by omega)
@[simp] theorem Heap.get_set_same (H : Heap) (b : Nat) (o : AObj) : (H.set b o).get b = o := by rw [Heap.get_set, if_pos rfl]
theorem Heap.get_set_ne (H : Heap) (b : Nat) (o : AObj) (i : Nat) (h : i ≠ b) : (H.set b o).get i = H.get i := by rw [Heap.get_set, if_neg h]
@[simp] theorem Heap.get_push_same (H : Heap) (o : AObj) : (H.push o).get H.next = o := by rw [Heap.get_push, if_pos rfl]
theorem Heap.get_push_ne (H : Heap) (o : AObj) (i : Nat) (h : i ≠ H.next) : (H.push o).get i = H.get i := by rw [Heap.get_push, if_neg h]

/-! ### where an abstract block lies -/
structure Ent where
  a : Addr
  cells : Nat

abbrev Plan := Nat → Option Ent
def Plan.le (m m' : Plan) : Prop := ∀ b e, m b = some e → m' b = some e
theorem Plan.le.refl (m : Plan) : Plan.le m m := fun _ _ h => h
theorem Plan.le.trans {a b c : Plan} (h : Plan.le a b) (k : Plan.le b c) : Plan.le a c := fun x e hx => k x e (h x e hx)

/-- The capacity of a slice, of elements of so many cells, of which it is not known. -/
def UNK (z : Nat) : Nat := 18446744073709551616 + z

inductive VRel (m : Plan) : Value → Value → Prop where
  | bool (b : Bool) : VRel m (.bool b) (.bool b)
  | int (k : IntKind) (n : Int) : VRel m (.int k n) (.int k n)
  | string (s : ByteArray) : VRel m (.string s) (.string s)
  | nilptr : VRel m (.pointer none) (.pointer none)
  | ptr {b o : Nat} {e : Ent} : m b = some e → VRel m (.pointer (some ⟨b, o, none⟩)) (.pointer (some (e.a.add o)))
  | nilslice : VRel m (.slice none 0 0) (.slice none 0 0)
  | slice {b o n c c' : Nat} {e : Ent} : m b = some e → n ≤ c' → c' ≤ maxLen → (18446744073709551616 ≤ c → o + c' * (c - 18446744073709551616) = e.cells) → (c < 18446744073709551616 → c' = c) → VRel m (.slice (some ⟨b, o, none⟩) n c) (.slice (some (e.a.add o)) n c')
  | empty {a : Addr} {c' : Nat} : c' ≤ maxLen → VRel m (.slice (some ⟨0, 0, some 0⟩) 0 0) (.slice (some a) 0 c')
  | nilmap : VRel m (.map none) (.map none)
  | map {b B : Nat} {e : Ent} : m b = some e → e.a = ⟨B, 0, none⟩ → VRel m (.map (some b)) (.map (some B))
  | func {fn : Fn} {f f' c c' : Array Value} : f.size = f'.size → (∀ (i : Nat) (v v' : Value), f[i]? = some v → f'[i]? = some v' → VRel m v v') →
      c.size = c'.size → (∀ (i : Nat) (v v' : Value), c[i]? = some v → c'[i]? = some v' → VRel m v v') → VRel m (.func fn f c) (.func fn f' c')
  | nilFunc : VRel m .nilFunc .nilFunc
  | nilIface : VRel m .nilIface .nilIface
  | iface {t : TypeId} {v v' : Value} : VRel m v v' → VRel m (.iface t v) (.iface t v')
  | agg {c c' : Array Value} : (∀ (i : Nat) (v : Value), c[i]? = some v → v.oneCell' = true) → c.size = c'.size → (∀ (i : Nat) (v v' : Value), c[i]? = some v → c'[i]? = some v' → VRel m v v') → VRel m (.agg c) (.agg c')
  | tuple {c c' : Array Value} : c.size = c'.size → (∀ (i : Nat) (v v' : Value), c[i]? = some v → c'[i]? = some v' → VRel m v v') → VRel m (.tuple c) (.tuple c')

theorem VRel.mono {m m' : Plan} (hm : Plan.le m m') {v v' : Value} (h : VRel m v v') : VRel m' v v' := by
  induction h with
  | bool b => exact .bool b
  | int k n => exact .int k n
  | string s => exact .string s
  | nilptr => exact .nilptr
  | ptr h => exact .ptr (hm _ _ h)
  | nilslice => exact .nilslice
  | slice h a b c d => exact .slice (hm _ _ h) a b c d
  | empty h => exact .empty h
  | nilmap => exact .nilmap
  | map h e => exact .map (hm _ _ h) e
  | func a _ b _ ih1 ih2 => exact .func a ih1 b ih2
  | nilFunc => exact .nilFunc
  | nilIface => exact .nilIface
  | iface _ ih => exact .iface ih
  | agg z a _ ih => exact .agg z a ih
  | tuple a _ ih => exact .tuple a ih

/-- Rows of values, place by place. -/
def LRel (m : Plan) (l l' : List Value) : Prop := l.length = l'.length ∧ ∀ (i : Nat) (v v' : Value), l[i]? = some v → l'[i]? = some v' → VRel m v v'
theorem LRel.mono {m m' : Plan} (hm : Plan.le m m') {l l' : List Value} (h : LRel m l l') : LRel m' l l' := ⟨h.1, fun i v v' a b => (h.2 i v v' a b).mono hm⟩
theorem LRel.nil (m : Plan) : LRel m [] [] := ⟨rfl, fun i v v' h => by simp at h⟩
theorem LRel.cons {m : Plan} {v v' : Value} {l l' : List Value} (h : VRel m v v') (k : LRel m l l') : LRel m (v :: l) (v' :: l') := by
  refine ⟨by simp [k.1], fun i u u' a b => ?_⟩
  cases i with
  | zero => simp at a b; subst a; subst b; exact h
  | succ i => exact k.2 i u u' (by simpa using a) (by simpa using b)
theorem LRel.head {m : Plan} {v v' : Value} {l l' : List Value} (h : LRel m (v :: l) (v' :: l')) : VRel m v v' := h.2 0 v v' rfl rfl
theorem LRel.tail {m : Plan} {v v' : Value} {l l' : List Value} (h : LRel m (v :: l) (v' :: l')) : LRel m l l' :=
  ⟨by simpa using h.1, fun i u u' a b => h.2 (i + 1) u u' (by simpa using a) (by simpa using b)⟩
theorem LRel.append {m : Plan} {a a' b b' : List Value} (h : LRel m a a') (k : LRel m b b') : LRel m (a ++ b) (a' ++ b') := by
  refine ⟨by simp [h.1, k.1], fun i v v' x y => ?_⟩
  rw [List.getElem?_append] at x y
  by_cases hi : i < a.length
  · rw [if_pos hi] at x; rw [if_pos (by rw [← h.1]; exact hi)] at y; exact h.2 i v v' x y
  · rw [if_neg hi] at x; rw [if_neg (by rw [← h.1]; exact hi)] at y; exact k.2 _ v v' x (by rw [h.1]; exact y)
theorem LRel.get {m : Plan} {l l' : List Value} (h : LRel m l l') {i : Nat} {v : Value} (hv : l[i]? = some v) : ∃ v', l'[i]? = some v' ∧ VRel m v v' := by
  obtain ⟨hi, _⟩ := List.getElem?_eq_some_iff.1 hv
  have hi' : i < l'.length := by rw [← h.1]; exact hi
  exact ⟨_, List.getElem?_eq_getElem hi', h.2 i _ _ hv (List.getElem?_eq_getElem hi')⟩
theorem LRel.getD {m : Plan} {l l' : List Value} (h : LRel m l l') {d : Value} (hd : VRel m d d) (i : Nat) : VRel m (l.getD i d) (l'.getD i d) := by
  by_cases hi : i < l.length
  · have hi' : i < l'.length := by rw [← h.1]; exact hi
    simp only [List.getD, List.getElem?_eq_getElem hi, List.getElem?_eq_getElem hi', Option.getD_some]
    exact h.2 i _ _ (List.getElem?_eq_getElem hi) (List.getElem?_eq_getElem hi')
  · have hi' : ¬ i < l'.length := by rw [← h.1]; exact hi
    simp only [List.getD, List.getElem?_eq_none (Nat.le_of_not_lt hi), List.getElem?_eq_none (Nat.le_of_not_lt hi'), Option.getD_none]
    exact hd
theorem LRel.set {m : Plan} {l l' : List Value} (h : LRel m l l') {v v' : Value} (hv : VRel m v v') (i : Nat) : LRel m (l.set i v) (l'.set i v') := by
  refine ⟨by simp [h.1], fun j u u' a b => ?_⟩
  rw [List.getElem?_set] at a b
  by_cases hij : i = j
  · subst hij
    rw [if_pos rfl] at a b
    split at a
    · rename_i hl
      rw [if_pos (by rw [← h.1]; exact hl)] at b
      cases a; cases b; exact hv
    · cases a
  · rw [if_neg hij] at a b; exact h.2 j u u' a b
theorem LRel.replicate {m : Plan} (n : Nat) {v v' : Value} (hv : VRel m v v') : LRel m (List.replicate n v) (List.replicate n v') := by
  induction n with
  | zero => exact LRel.nil m
  | succ n ih => exact LRel.cons hv ih
theorem LRel.take {m : Plan} {l l' : List Value} (h : LRel m l l') (n : Nat) : LRel m (l.take n) (l'.take n) := by
  refine ⟨by simp [h.1], fun i v v' a b => ?_⟩
  rw [List.getElem?_take] at a b
  split at a
  · rename_i hi; rw [if_pos hi] at b; exact h.2 i v v' a b
  · cases a
theorem LRel.drop {m : Plan} {l l' : List Value} (h : LRel m l l') (n : Nat) : LRel m (l.drop n) (l'.drop n) := by
  refine ⟨by simp [h.1], fun i v v' a b => ?_⟩
  rw [List.getElem?_drop] at a b
  exact h.2 _ v v' a b
theorem LRel.map {m : Plan} {α : Type} (f g : α → Value) (l : List α) (h : ∀ x ∈ l, VRel m (f x) (g x)) : LRel m (l.map f) (l.map g) := by
  induction l with
  | nil => exact LRel.nil m
  | cons x l ih => exact LRel.cons (h x (by simp)) (ih fun y hy => h y (by simp [hy]))

abbrev ARel (m : Plan) (c c' : Array Value) : Prop := LRel m c.toList c'.toList
theorem ARel.iff {m : Plan} {c c' : Array Value} : ARel m c c' ↔ c.size = c'.size ∧ (∀ (i : Nat) (v v' : Value), c[i]? = some v → c'[i]? = some v' → VRel m v v') := by
  simp [ARel, LRel, Array.getElem?_toList]
theorem VRel.agg_iff {m : Plan} {c : Array Value} {v' : Value} : VRel m (.agg c) v' ↔ ∃ c', v' = .agg c' ∧ ARel m c c' ∧ ∀ v ∈ c.toList, v.oneCell' = true := by
  constructor
  · intro h; cases h with | agg z a b => exact ⟨_, rfl, ARel.iff.2 ⟨a, b⟩, fun v hv => by obtain ⟨i, hi⟩ := List.getElem?_of_mem hv; exact z i v (by simpa using hi)⟩
  · rintro ⟨c', rfl, h, z⟩; exact .agg (fun i v hv => z v (List.mem_of_getElem? (by simpa using hv))) (ARel.iff.1 h).1 (ARel.iff.1 h).2
theorem VRel.tuple_iff {m : Plan} {c : Array Value} {v' : Value} : VRel m (.tuple c) v' ↔ ∃ c', v' = .tuple c' ∧ ARel m c c' := by
  constructor
  · intro h; cases h with | tuple a b => exact ⟨_, rfl, ARel.iff.2 ⟨a, b⟩⟩
  · rintro ⟨c', rfl, h⟩; exact .tuple (ARel.iff.1 h).1 (ARel.iff.1 h).2
theorem VRel.func_iff {m : Plan} {fn : Fn} {f c : Array Value} {v' : Value} : VRel m (.func fn f c) v' ↔ ∃ f' c', v' = .func fn f' c' ∧ ARel m f f' ∧ ARel m c c' := by
  constructor
  · intro h; cases h with | func a b d e => exact ⟨_, _, rfl, ARel.iff.2 ⟨a, b⟩, ARel.iff.2 ⟨d, e⟩⟩
  · rintro ⟨f', c', rfl, h, k⟩; exact .func (ARel.iff.1 h).1 (ARel.iff.1 h).2 (ARel.iff.1 k).1 (ARel.iff.1 k).2
theorem VRel.bool_iff {m : Plan} {b : Bool} {v' : Value} : VRel m (.bool b) v' ↔ v' = .bool b := ⟨fun h => by cases h; rfl, fun h => by subst h; exact .bool b⟩
theorem VRel.int_iff {m : Plan} {k : IntKind} {n : Int} {v' : Value} : VRel m (.int k n) v' ↔ v' = .int k n := ⟨fun h => by cases h; rfl, fun h => by subst h; exact .int k n⟩
theorem VRel.string_iff {m : Plan} {s : ByteArray} {v' : Value} : VRel m (.string s) v' ↔ v' = .string s := ⟨fun h => by cases h; rfl, fun h => by subst h; exact .string s⟩
theorem VRel.undef {m : Plan} : VRel m undef undef := VRel.tuple_iff.2 ⟨_, rfl, LRel.nil m⟩
theorem VRel.oneCell {m : Plan} {v v' : Value} (h : VRel m v v') : v'.oneCell' = v.oneCell' := by cases h <;> rfl
def notTuple : Value → Bool
  | .tuple _ => false
  | _ => true
theorem VRel.cells1 {m : Plan} {v v' : Value} (h : VRel m v v') (ht : notTuple v = true) : ∀ u ∈ v.cells.toList, u.oneCell' = true := by
  cases h with
  | agg z a b => intro u hu; obtain ⟨i, hi⟩ := List.getElem?_of_mem hu; exact z i u (by simpa [Value.cells] using hi)
  | tuple a b => cases ht
  | _ => intro u hu; simp [Value.cells] at hu; subst hu; rfl
theorem VRel.cells {m : Plan} {v v' : Value} (h : VRel m v v') : ARel m v.cells v'.cells := by
  cases h with
  | agg z a b => exact ARel.iff.2 ⟨a, b⟩
  | bool b => exact LRel.cons (.bool b) (LRel.nil m)
  | int k n => exact LRel.cons (.int k n) (LRel.nil m)
  | string s => exact LRel.cons (.string s) (LRel.nil m)
  | nilptr => exact LRel.cons .nilptr (LRel.nil m)
  | ptr h => exact LRel.cons (.ptr h) (LRel.nil m)
  | nilslice => exact LRel.cons .nilslice (LRel.nil m)
  | slice h a b c d => exact LRel.cons (.slice h a b c d) (LRel.nil m)
  | empty h => exact LRel.cons (.empty h) (LRel.nil m)
  | nilmap => exact LRel.cons .nilmap (LRel.nil m)
  | map h e => exact LRel.cons (.map h e) (LRel.nil m)
  | func a b c d => exact LRel.cons (.func a b c d) (LRel.nil m)
  | nilFunc => exact LRel.cons .nilFunc (LRel.nil m)
  | nilIface => exact LRel.cons .nilIface (LRel.nil m)
  | iface h => exact LRel.cons (.iface h) (LRel.nil m)
  | tuple a b => exact LRel.cons (.tuple a b) (LRel.nil m)

/-- Values without an address stand for themselves. -/
inductive Plain : Value → Prop where
  | bool (b : Bool) : Plain (.bool b)
  | int (k : IntKind) (n : Int) : Plain (.int k n)
  | string (s : ByteArray) : Plain (.string s)
  | nilptr : Plain (.pointer none)
  | nilslice : Plain (.slice none 0 0)
  | nilmap : Plain (.map none)
  | nilFunc : Plain .nilFunc
  | nilIface : Plain .nilIface
  | func (fn : Fn) : Plain (.func fn #[] #[])
  | agg {c : Array Value} : (∀ (i : Nat) (v : Value), c[i]? = some v → v.oneCell' = true) → (∀ (i : Nat) (v : Value), c[i]? = some v → Plain v) → Plain (.agg c)
  | tuple {c : Array Value} : (∀ (i : Nat) (v : Value), c[i]? = some v → Plain v) → Plain (.tuple c)
  | iface {t : TypeId} {v : Value} : Plain v → Plain (.iface t v)
theorem Plain.rel {v : Value} (h : Plain v) (m : Plan) : VRel m v v := by
  induction h with
  | bool b => exact .bool b
  | int k n => exact .int k n
  | string s => exact .string s
  | nilptr => exact .nilptr
  | nilslice => exact .nilslice
  | nilmap => exact .nilmap
  | nilFunc => exact .nilFunc
  | nilIface => exact .nilIface
  | func fn => exact VRel.func_iff.2 ⟨_, _, rfl, LRel.nil m, LRel.nil m⟩
  | agg z _ ih => exact .agg z rfl fun i v v' a b => by rw [a] at b; cases b; exact ih i v a
  | tuple _ ih => exact .tuple rfl fun i v v' a b => by rw [a] at b; cases b; exact ih i v a
  | iface _ ih => exact .iface ih
end Go.X
