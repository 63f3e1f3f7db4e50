/- A region whose order is left open: what it comes to in the text's order it comes to in every order. Definitions, and the order. -/
import Derived.Test.YtomibdncbioijaaXzCoreI
set_option linter.unusedVariables false
set_option linter.unusedSimpArgs false
namespace Go.X
open Go Go.RowKit

def bB (b : Array Nat) (i j : Nat) : Bool := (b.getD i 0).testBit j
def dstOf (ops : Array Oper) (i : Nat) : Option Tmp := (ops[i]?).bind (·.dst)
def serialB (P : Program) (o : Oper) : Bool :=
  match clsOf P o with
  | .S | .C => true
  | _ => false
def heavyOf (P : Program) (ops : Array Oper) (i : Nat) : Bool :=
  match ops[i]? with
  | some o => serialB P o || clsOf P o == .A
  | none => false
def asSer (P : Program) (ops : Array Oper) (i : Nat) : Bool :=
  (List.range ops.size).all fun j => j == i || !heavyOf P ops j || bB (Region.before ops) (max i j) (min i j)
/-- The serial ones; what makes memory is one of them, where its place is fixed. -/
def serOf (P : Program) (ops : Array Oper) (i : Nat) : Bool :=
  match ops[i]? with
  | some o => serialB P o || (clsOf P o == .A && asSer P ops i)
  | none => false
def isAOf (P : Program) (ops : Array Oper) (i : Nat) : Bool :=
  match ops[i]? with
  | some o => clsOf P o == .A
  | none => false

def befOf (b : Array Nat) (o : Oper) : Nat := o.after.toList.foldl (fun s e => if Region.binds .any e then s ||| 2 ^ e.on ||| b.getD e.on 0 else s) 0
def chkBef (ops : Array Oper) (b : Array Nat) (i : Nat) : Bool :=
  match ops[i]? with
  | none => true
  | some o => (o.after.toList.all fun e => !Region.binds .any e || decide (e.on < i)) && b.getD i 0 == befOf b o
def tmpsOf (o : Oper) : List Tmp := o.op.operands.toList.filterMap fun
  | .tmp t => some t
  | _ => none
def namesOf (ops : Array Oper) (o : Oper) : List Tmp :=
  o.dst.toList ++ (tmpsOf o ++ (match o.guard with
    | some (g, _) => (dstOf ops g).toList
    | none => []))

def drawOk (P : Program) (ops : Array Oper) : Bool :=
  (List.range ops.size).all (chkBef ops (Region.before ops)) &&
  ((List.range ops.size).all fun j => (List.range ops.size).all fun i => !(decide (i < j)) || !(serOf P ops i && serOf P ops j) || bB (Region.before ops) j i) &&
  ((List.range ops.size).all fun j => match ops[j]? with
    | some o => (namesOf ops o).all fun t => (List.range ops.size).all fun i => i == j || !(dstOf ops i == some t) || bB (Region.before ops) (max i j) (min i j)
    | none => true)

/-- The order, as it serves. -/
structure Ord (P : Program) (ops : Array Oper) (b : Array Nat) : Prop where
  lt : ∀ i o e, ops[i]? = some o → e ∈ o.after → Region.binds .any e = true → e.on < i
  bit : ∀ i o, ops[i]? = some o → b.getD i 0 = befOf b o
  ser : ∀ i j, i < j → serOf P ops i = true → serOf P ops j = true → bB b j i = true
  nam : ∀ j o t i, ops[j]? = some o → t ∈ namesOf ops o → i ≠ j → dstOf ops i = some t → bB b (max i j) (min i j) = true

theorem lt_of_some {ops : Array Oper} {i : Nat} {o : Oper} (h : ops[i]? = some o) : i < ops.size := (Array.getElem?_eq_some_iff.1 h).1
theorem serOf_lt {P : Program} {ops : Array Oper} {i : Nat} (h : serOf P ops i = true) : i < ops.size := by
  unfold serOf at h
  cases ho : ops[i]? with
  | none => simp [ho] at h
  | some o => exact lt_of_some ho
theorem dstOf_lt {ops : Array Oper} {i : Nat} {t : Tmp} (h : dstOf ops i = some t) : i < ops.size := by
  unfold dstOf at h
  cases ho : ops[i]? with
  | none => simp [ho] at h
  | some o => exact lt_of_some ho

theorem Ord.of {P : Program} {ops : Array Oper} (h : drawOk P ops = true) : Ord P ops (Region.before ops) := by
  unfold drawOk at h
  simp only [Bool.and_eq_true, List.all_eq_true, List.mem_range] at h
  obtain ⟨⟨h1, h2⟩, h3⟩ := h
  refine ⟨fun i o e ho he hb => ?_, fun i o ho => ?_, fun i j hij hi hj => ?_, fun j o t i ho ht hij hd => ?_⟩
  · have := h1 i (lt_of_some ho)
    simp only [chkBef, ho, Bool.and_eq_true, List.all_eq_true] at this
    have := this.1 e (by simpa using he)
    simpa [hb] using this
  · have := h1 i (lt_of_some ho)
    simp only [chkBef, ho, Bool.and_eq_true, beq_iff_eq] at this
    exact this.2
  · have := h2 j (serOf_lt hj) i (serOf_lt hi)
    simpa [hij, hi, hj] using this
  · have := h3 j (lt_of_some ho)
    simp only [ho, List.all_eq_true, List.mem_range] at this
    have := this t ht i (dstOf_lt hd)
    simpa [hij, hd] using this

theorem testBit_foldl (b : Array Nat) (k : Nat) : ∀ (l : List Edge) (s : Nat),
    (l.foldl (fun s e => if Region.binds .any e then s ||| 2 ^ e.on ||| b.getD e.on 0 else s) s).testBit k = true ↔ s.testBit k = true ∨ ∃ e ∈ l, Region.binds .any e = true ∧ (e.on = k ∨ bB b e.on k = true) := by
  intro l
  induction l with
  | nil => intro s; simp
  | cons e l ih =>
    intro s
    simp only [List.foldl_cons]
    rw [ih]
    by_cases hb : Region.binds .any e = true
    · simp only [hb, if_true, Nat.testBit_or, Bool.or_eq_true, Nat.testBit_two_pow, decide_eq_true_eq, List.mem_cons, exists_eq_or_imp, true_and, bB]
      constructor
      · rintro (((h | h) | h) | ⟨e', h1, h2⟩)
        · exact .inl h
        · exact .inr (.inl (.inl h))
        · exact .inr (.inl (.inr h))
        · exact .inr (.inr ⟨e', h1, h2⟩)
      · rintro (h | (h | h) | ⟨e', h1, h2⟩)
        · exact .inl (.inl (.inl h))
        · exact .inl (.inl (.inr h))
        · exact .inl (.inr h)
        · exact .inr ⟨e', h1, h2⟩
    · simp only [hb, Bool.false_eq_true, if_false, List.mem_cons, exists_eq_or_imp, false_and, false_or]

section
variable {P : Program} {ops : Array Oper} {b : Array Nat}

theorem Ord.iff (h : Ord P ops b) {i : Nat} {o : Oper} (ho : ops[i]? = some o) (k : Nat) : bB b i k = true ↔ ∃ e ∈ o.after, Region.binds .any e = true ∧ (e.on = k ∨ bB b e.on k = true) := by
  unfold bB
  rw [h.bit i o ho]
  unfold befOf
  rw [testBit_foldl]
  simp [bB]
theorem Ord.below (h : Ord P ops b) : ∀ (i : Nat) (o : Oper) (k : Nat), ops[i]? = some o → bB b i k = true → k < i := by
  intro i
  induction i using Nat.strongRecOn with
  | _ i ih =>
    intro o k ho hb
    obtain ⟨e, he, hbi, hk⟩ := (h.iff ho k).1 hb
    have hlt := h.lt i o e ho he hbi
    rcases hk with rfl | hk
    · exact hlt
    · have hn : e.on < ops.size := by have := lt_of_some ho; omega
      exact Nat.lt_trans (ih e.on hlt _ k (Array.getElem?_eq_getElem hn) hk) hlt
theorem Ord.trans (h : Ord P ops b) : ∀ (i : Nat) (o : Oper) (j k : Nat), ops[i]? = some o → bB b i j = true → bB b j k = true → bB b i k = true := by
  intro i
  induction i using Nat.strongRecOn with
  | _ i ih =>
    intro o j k ho hij hjk
    obtain ⟨e, he, hbi, hj⟩ := (h.iff ho j).1 hij
    have hlt := h.lt i o e ho he hbi
    refine (h.iff ho k).2 ⟨e, he, hbi, .inr ?_⟩
    rcases hj with rfl | hj
    · exact hjk
    · have hn : e.on < ops.size := by have := lt_of_some ho; omega
      exact ih e.on hlt _ j k (Array.getElem?_eq_getElem hn) hj hjk

/-- What was done, closed downward. -/
def Closed (ops : Array Oper) (b : Array Nat) (L : Nat → Bool) : Prop := ∀ i, L i = true → i < ops.size ∧ ∀ j, bB b i j = true → L j = true
def Rdy (ops : Array Oper) (b : Array Nat) (L : Nat → Bool) (j : Nat) : Prop := L j = false ∧ j < ops.size ∧ ∀ k, bB b j k = true → L k = true
def addL (L : Nat → Bool) (j : Nat) : Nat → Bool := fun i => i == j || L i

theorem Closed.add {L : Nat → Bool} (h : Closed ops b L) {j : Nat} (hr : Rdy ops b L j) : Closed ops b (addL L j) := by
  intro i hi
  simp only [addL, Bool.or_eq_true, beq_iff_eq] at hi
  rcases hi with rfl | hi
  · exact ⟨hr.2.1, fun k hk => by simp [addL, hr.2.2 k hk]⟩
  · exact ⟨(h i hi).1, fun k hk => by simp [addL, (h i hi).2 k hk]⟩

/-! ### the slots, what was done -/
variable (ops) in
def tsL (val : Nat → Value) (ts0 : Ts) (L : Nat → Bool) : Nat → Ts
  | 0 => ts0
  | i + 1 => if L i then putL (tsL val ts0 L i) (dstOf ops i) (val i) else tsL val ts0 L i

theorem putL_other {ts : Ts} {d : Option Tmp} {v : Value} {t : Nat} (h : d ≠ some t) : (putL ts d v)[t]? = ts[t]? := by
  cases d with
  | none => rfl
  | some d => exact List.getElem?_set_ne (fun e => h (by rw [e]))
theorem putL_length (ts : Ts) (d : Option Tmp) (v : Value) : (putL ts d v).length = ts.length := by cases d <;> simp [putL]
theorem tsL_length (val : Nat → Value) (ts0 : Ts) (L : Nat → Bool) (n : Nat) : (tsL ops val ts0 L n).length = ts0.length := by
  induction n with
  | zero => rfl
  | succ n ih => unfold tsL; split <;> simp [putL_length, ih]
theorem putL_congr {ts ts' : Ts} (hl : ts.length = ts'.length) {d : Option Tmp} {v : Value} {t : Nat} (h : ts[t]? = ts'[t]?) : (putL ts d v)[t]? = (putL ts' d v)[t]? := by
  cases d with
  | none => exact h
  | some d =>
    simp only [putL, List.getElem?_set]
    by_cases hd : d = t
    · subst hd; simp [hl]
    · simp [hd, h]
theorem tsL_congr (val : Nat → Value) (ts0 : Ts) {L L' : Nat → Bool} {t : Nat} : ∀ (n : Nat), (∀ i, i < n → dstOf ops i = some t → L i = L' i) → (tsL ops val ts0 L n)[t]? = (tsL ops val ts0 L' n)[t]? := by
  intro n
  induction n with
  | zero => intro _; rfl
  | succ n ih =>
    intro h
    have ih := ih fun i hi => h i (by omega)
    unfold tsL
    by_cases hd : dstOf ops n = some t
    · rw [h n (by omega) hd]
      split
      · exact putL_congr (by rw [tsL_length, tsL_length]) ih
      · exact ih
    · have a1 : ∀ (ts : Ts), (putL ts (dstOf ops n) (val n))[t]? = ts[t]? := fun ts => putL_other hd
      split <;> split <;> (try rw [a1]) <;> (try rw [a1]) <;> exact ih

/-- Whoever looks at an operation's names sees the same, whatever else was done. -/
theorem Ord.agree (h : Ord P ops b) {L : Nat → Bool} (hc : Closed ops b L) {j : Nat} {o : Oper} (ho : ops[j]? = some o) (hr : Rdy ops b L j) {t : Nat} (ht : t ∈ namesOf ops o) {i : Nat} (hij : i ≠ j) (hd : dstOf ops i = some t) :
    L i = decide (i < j) := by
  have hb := h.nam j o t i ho ht hij hd
  rcases Nat.lt_or_ge i j with hlt | hge
  · rw [Nat.max_eq_right (by omega), Nat.min_eq_left (by omega)] at hb
    simp [hlt, hr.2.2 i hb]
  · have hlt : j < i := by omega
    rw [Nat.max_eq_left (by omega), Nat.min_eq_right (by omega)] at hb
    have : L i = false := by
      cases hL : L i with
      | false => rfl
      | true => have := (hc i hL).2 j hb; rw [hr.1] at this; cases this
    simp [this]; omega
theorem Ord.look (h : Ord P ops b) {L : Nat → Bool} (hc : Closed ops b L) {j : Nat} {o : Oper} (ho : ops[j]? = some o) (hr : Rdy ops b L j) (val : Nat → Value) (ts0 : Ts) {t : Nat} (ht : t ∈ namesOf ops o) :
    (tsL ops val ts0 L ops.size)[t]? = (tsL ops val ts0 (fun i => decide (i < j)) ops.size)[t]? := by
  refine tsL_congr val ts0 ops.size fun i hi hd => ?_
  by_cases hij : i = j
  · subst hij; simp [hr.1]
  · exact h.agree hc ho hr ht hij hd
theorem tsL_prefix (val : Nat → Value) (ts0 : Ts) (j : Nat) : ∀ (n : Nat), j ≤ n → tsL ops val ts0 (fun i => decide (i < j)) n = tsL ops val ts0 (fun i => decide (i < j)) j := by
  intro n hn
  induction n with
  | zero => have : j = 0 := by omega
            subst this; rfl
  | succ n ih =>
    by_cases hj : j = n + 1
    · subst hj; rfl
    · rw [← ih (by omega)]
      show (if decide (n < j) = true then _ else _) = _
      rw [if_neg (by simp; omega)]
theorem tsL_full (val : Nat → Value) (ts0 : Ts) {L L' : Nat → Bool} : ∀ (n : Nat), (∀ i, i < n → L i = L' i) → tsL ops val ts0 L n = tsL ops val ts0 L' n := by
  intro n
  induction n with
  | zero => intro _; rfl
  | succ n ih => intro h; unfold tsL; rw [h n (by omega), ih fun i hi => h i (by omega)]
/-- Behind one operation more. -/
theorem tsL_last (val : Nat → Value) (ts0 : Ts) {L : Nat → Bool} {j : Nat} {t : Tmp} (hL : L j = true) (hd : dstOf ops j = some t) : ∀ (n : Nat), j < n → (∀ i, j < i → i < n → dstOf ops i = some t → L i = false) → t < ts0.length →
    (tsL ops val ts0 L n)[t]? = some (val j) := by
  intro n
  induction n with
  | zero => intro h; omega
  | succ n ih =>
    intro hjn hno hlt
    unfold tsL
    by_cases hj : j = n
    · subst hj
      rw [if_pos hL, hd]
      simp only [putL]
      rw [List.getElem?_set_self (by rw [tsL_length]; exact hlt)]
    · have ih := ih (by omega) (fun i h1 h2 => hno i h1 (by omega)) hlt
      by_cases hdn : dstOf ops n = some t
      · rw [hno n (by omega) (by omega) hdn]; simpa using ih
      · split
        · rw [putL_other hdn]; exact ih
        · exact ih
theorem Ord.put (h : Ord P ops b) {L : Nat → Bool} (hc : Closed ops b L) {j : Nat} {o : Oper} (ho : ops[j]? = some o) (hr : Rdy ops b L j) (val : Nat → Value) (ts0 : Ts) :
    tsL ops val ts0 (addL L j) ops.size = putL (tsL ops val ts0 L ops.size) (dstOf ops j) (val j) := by
  have hd0 : dstOf ops j = o.dst := by simp [dstOf, ho]
  apply List.ext_getElem?
  intro t
  by_cases hd : dstOf ops j = some t
  · by_cases hlt : t < ts0.length
    · rw [tsL_last val ts0 (L := addL L j) (j := j) (t := t) (by simp [addL]) hd ops.size hr.2.1 (fun i h1 h2 hi => ?_) hlt, hd]
      · simp only [putL]; rw [List.getElem?_set_self (by rw [tsL_length]; exact hlt)]
      · have := h.agree hc ho hr (t := t) (by unfold namesOf; rw [← hd0, hd]; simp) (by omega) hi
        simp only [addL, this]
        simp; omega
    · rw [List.getElem?_eq_none (by rw [tsL_length]; omega), List.getElem?_eq_none (by rw [putL_length, tsL_length]; omega)]
  · rw [putL_other hd]
    refine tsL_congr val ts0 ops.size fun i hi hdi => ?_
    have : i ≠ j := by rintro rfl; exact hd hdi
    simp [addL, this]

/-! ### how many of the serial ones -/
def cnt (f : Nat → Bool) (n : Nat) : Nat := ((List.range n).filter f).length
theorem cnt_succ (f : Nat → Bool) (n : Nat) : cnt f (n + 1) = cnt f n + if f n then 1 else 0 := by
  unfold cnt
  rw [List.range_succ, List.filter_append, List.length_append]
  cases h : f n <;> simp [h]
theorem cnt_le {f g : Nat → Bool} (n : Nat) (h : ∀ i, i < n → f i = true → g i = true) : cnt f n ≤ cnt g n := by
  induction n with
  | zero => simp [cnt]
  | succ n ih =>
    rw [cnt_succ, cnt_succ]
    have := ih fun i hi => h i (by omega)
    have := h n (by omega)
    cases hf : f n <;> cases hg : g n <;> simp_all <;> omega
theorem cnt_congr {f g : Nat → Bool} (n : Nat) (h : ∀ i, i < n → f i = g i) : cnt f n = cnt g n :=
  Nat.le_antisymm (cnt_le n fun i hi hf => by rw [← h i hi]; exact hf) (cnt_le n fun i hi hf => by rw [h i hi]; exact hf)
theorem cnt_add {f : Nat → Bool} {j n : Nat} (hj : j < n) (hf : f j = false) : cnt (fun i => i == j || f i) n = cnt f n + 1 := by
  induction n with
  | zero => omega
  | succ n ih =>
    rw [cnt_succ, cnt_succ]
    by_cases hjn : j = n
    · subst hjn
      have e1 : cnt (fun i => i == j || f i) j = cnt f j := cnt_congr j fun i hi => by
        have : i ≠ j := by omega
        simp [this]
      rw [e1]
      simp [hf]
    · rw [ih (by omega)]
      have : (n == j) = false := by simp; omega
      simp only [this, Bool.false_or]
      omega
theorem cnt_prefix {f : Nat → Bool} {j n : Nat} (hj : j ≤ n) : cnt (fun i => f i && decide (i < j)) n = cnt f j := by
  induction n with
  | zero => have : j = 0 := by omega
            subst this; rfl
  | succ n ih =>
    rw [cnt_succ]
    by_cases hjn : j = n + 1
    · subst hjn
      rw [cnt_succ, cnt_congr (g := f) n fun i hi => by simp; intro _; omega]
      simp
    · rw [ih (by omega)]
      have : decide (n < j) = false := by simp; omega
      simp [this]
theorem Ord.cnt_ready (h : Ord P ops b) {L : Nat → Bool} (hc : Closed ops b L) {j : Nat} (hr : Rdy ops b L j) (hs : serOf P ops j = true) :
    cnt (fun i => serOf P ops i && L i) ops.size = cnt (serOf P ops) j := by
  rw [← cnt_prefix (f := serOf P ops) (n := ops.size) (Nat.le_of_lt hr.2.1)]
  refine cnt_congr _ fun i hi => ?_
  cases hsi : serOf P ops i with
  | false => simp
  | true =>
    simp only [Bool.true_and]
    by_cases hij : i = j
    · subst hij; simp [hr.1]
    · rcases Nat.lt_or_ge i j with hlt | hge
      · simp [hlt, hr.2.2 i (h.ser i j hlt hsi hs)]
      · have hlt : j < i := by omega
        have : L i = false := by
          cases hL : L i with
          | false => rfl
          | true => have := (hc i hL).2 j (h.ser j i hlt hs hsi); rw [hr.1] at this; cases this
        simp [this]; omega
end
end Go.X
