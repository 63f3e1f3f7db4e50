/- Any argument of numbers, truths, texts, structs and slices, read into a heap. -/
import Derived.Test.YtomibdncbioijaaXzC
import Derived.Test.YtomibdncbioijaaXzGo
import Derived.Deep.Slices
import Derived.ChangeArms
import Derived.SizedLaws
import Derived.Carry
set_option linter.unusedVariables false
set_option linter.unusedSimpArgs false
namespace Go.X
open Go Go.RowKit Go.ChangeShapes Go.WideShapes Go.Deep

/-- Types of arguments. -/
inductive Ty where
  | int (k : IntKind)
  | bool
  | str
  | slice (e : Ty) (bytes : Nat)
  | strct (f : Ty)
  | unit
  | pair (t u : Ty)
def Ty.z : Ty → Nat
  | .unit => 0
  | .pair t u => t.z + u.z
  | .strct f => f.z
  | _ => 1
/-- The program's type is the one that is meant. -/
def Ty.ok (P : Program) : Ty → TypeId ⊕ (List Field × Nat × Nat) → Bool
  | .int k, .inl t => match P.underlying t with | some (.int k') => decide (k = k') && P.cellsOf t == 1 | _ => false
  | .bool, .inl t => match P.underlying t with | some .bool => P.cellsOf t == 1 | _ => false
  | .str, .inl t => match P.underlying t with | some .string => P.cellsOf t == 1 | _ => false
  | .slice e by_, .inl t => match P.underlying t with | some (.slice te) => e.ok P (.inl te) && P.cellsOf te == e.z && P.bytesOf te == by_ && P.cellsOf t == 1 && decide (0 < e.z) | _ => false
  | .strct f, .inl t => match P.underlying t with | some (.struct fs) => f.ok P (.inr (fs.toList, 0, P.cellsOf t)) && P.cellsOf t == f.z | _ => false
  | .unit, .inr (fs, o, n) => fs.isEmpty && o == n
  | .pair t u, .inr (fs, o, n) => match fs with | f :: fs => f.offset == o && P.cellsOf f.type == t.z && t.ok P (.inl f.type) && u.ok P (.inr (fs, o + t.z, n)) | [] => false
  | _, _ => false
/-- What is there. -/
def Holds (H : Heap) : Ty → List Value → Prop
  | .int k, vs => ∃ n, vs = [.int k n] ∧ (Lit.int k n).wf = true
  | .bool, vs => ∃ b, vs = [.bool b]
  | .str, vs => ∃ s, vs = [.string s] ∧ s.size ≤ maxLen
  | .slice e by_, vs => ∃ (a : Option Addr) (n k : Nat) (vss : List (List Value)), vs = [.slice a n k] ∧ Sl H e.z a n k vss.flatten ∧ vss.length = n ∧ (∀ x ∈ vss, x.length = e.z ∧ Holds H e x) ∧ n * by_ ≤ 140737488351232
  | .strct f, vs => Holds H f vs
  | .unit, vs => vs = []
  | .pair t u, vs => ∃ x y, vs = x ++ y ∧ Holds H t x ∧ Holds H u y
theorem Holds.len {H : Heap} : ∀ {T : Ty} {vs : List Value}, Holds H T vs → vs.length = T.z
  | .int k, vs, ⟨n, h, _⟩ => by rw [h]; rfl
  | .bool, vs, ⟨b, h⟩ => by rw [h]; rfl
  | .str, vs, ⟨s, h, _⟩ => by rw [h]; rfl
  | .slice e by_, vs, ⟨a, n, k, vss, h, _⟩ => by rw [h]; rfl
  | .strct f, vs, h => Holds.len (T := f) h
  | .unit, vs, h => by rw [show vs = [] from h]; rfl
  | .pair t u, vs, ⟨x, y, h, hx, hy⟩ => by rw [h, List.length_append, hx.len, hy.len]; rfl
theorem Holds.one {H : Heap} : ∀ {T : Ty} {vs : List Value}, Holds H T vs → ∀ v ∈ vs, v.oneCell' = true
  | .int k, vs, ⟨n, h, _⟩, v, hv => by subst h; simp only [List.mem_singleton] at hv; subst hv; rfl
  | .bool, vs, ⟨b, h⟩, v, hv => by subst h; simp only [List.mem_singleton] at hv; subst hv; rfl
  | .str, vs, ⟨s, h, _⟩, v, hv => by subst h; simp only [List.mem_singleton] at hv; subst hv; rfl
  | .slice e by_, vs, ⟨a, n, k, vss, h, _⟩, v, hv => by subst h; simp only [List.mem_singleton] at hv; subst hv; rfl
  | .strct f, vs, h, v, hv => Holds.one (T := f) h v hv
  | .unit, vs, h, v, hv => by rw [show vs = [] from h] at hv; cases hv
  | .pair t u, vs, ⟨x, y, h, hx, hy⟩, v, hv => by
    subst h
    rcases List.mem_append.1 hv with h | h
    · exact hx.one v h
    · exact hy.one v h
theorem Holds.keep {H H' : Heap} (k : Keep H.next H H') : ∀ {T : Ty} {vs : List Value}, Holds H T vs → Holds H' T vs
  | .int _, _, h => h
  | .bool, _, h => h
  | .str, _, h => h
  | .slice e by_, vs, ⟨a, n, c, vss, h, s, l, i, b⟩ => ⟨a, n, c, vss, h, s.keep k, l, fun x hx => ⟨(i x hx).1, Holds.keep k (i x hx).2⟩, b⟩
  | .strct f, vs, h => Holds.keep k (T := f) h
  | .unit, _, h => h
  | .pair t u, vs, ⟨x, y, h, hx, hy⟩ => ⟨x, y, h, hx.keep k, hy.keep k⟩

theorem weightsAll_mem {H : Type} {P : Program} {e : TypeId} {n : Nat} : ∀ {ds : List (DataW H)} {d : DataW H}, d ∈ ds → n ∈ d.weights P e → n ∈ DataW.weightsAll P e ds
  | d0 :: ds, d, hd, hn => by
    rw [DataW.weightsAll, List.mem_append]
    rcases List.mem_cons.1 hd with rfl | hd
    · exact .inl hn
    · exact .inr (weightsAll_mem hd hn)
/-- What reading tells, of cells in any world of rows that are read only. -/
def Opened (W : World) (T : Ty) (cs : List Value) : Prop :=
  ∀ m H, In m H W → ∃ m' H' ds, In m' H' W ∧ Plan.le m m' ∧ Keep H.next H H' ∧ LRel m' ds cs ∧ Holds H' T ds
section
variable {D : Type} {enc : TypeId × Value → D} {P : Program} {W : World}
/-- What the reading of a part says. -/
def PartOf (enc : TypeId × Value → D) (P : Program) (W : World) (fuel : Nat) (cs : List Value) : TypeId ⊕ (List Field × Nat × Nat) → Prop
  | .inl t => ∃ x, DataW.trod enc P W 0 (fun _ => true) true fuel t cs = some x ∧ ∀ n ∈ x.1.weights P t, n ≤ reachBytes
  | .inr (fs, _, n) => cs.length = n ∧ ∃ xs : List (DataW D × List MemPlace), xs.length = fs.length ∧ (∀ (i : Nat) (f : Field), fs[i]? = some f → DataW.trod enc P W 0 (fun _ => true) true fuel f.type ((cs.drop f.offset).take (P.cellsOf f.type)) = xs[i]?) ∧
      ∀ n ∈ DataW.weightsEach P (fs.map (·.type)) (xs.map (·.1)), n ≤ reachBytes
def cut {α : Type} (cs : List α) : TypeId ⊕ (List Field × Nat × Nat) → List α
  | .inl _ => cs
  | .inr (_, o, _) => cs.drop o
theorem Opened.of : ∀ (T : Ty) (s : TypeId ⊕ (List Field × Nat × Nat)) (fuel : Nat) (cs : List Value), T.ok P s = true → PartOf enc P W fuel cs s → Opened W T (cut cs s)
  | .int k, .inl t, fuel, cs, hok, ⟨x, hx, _⟩ => by
    unfold Ty.ok at hok
    split at hok
    · rename_i k' hu
      simp only [Bool.and_eq_true, decide_eq_true_eq, beq_iff_eq] at hok
      obtain ⟨rfl, _⟩ := hok
      obtain ⟨n, rfl, _, hw⟩ := DataW.trod_int hu hx
      exact fun m H h => ⟨m, H, [.int k n], h, Plan.le.refl m, Keep.refl _ _, LRel.cons (.int k n) (LRel.nil m), n, rfl, hw⟩
    · cases hok
  | .bool, .inl t, fuel, cs, hok, ⟨x, hx, _⟩ => by
    unfold Ty.ok at hok
    split at hok
    · rename_i hu
      obtain ⟨b, rfl, _⟩ := DataW.trod_bool hu hx
      exact fun m H h => ⟨m, H, [.bool b], h, Plan.le.refl m, Keep.refl _ _, LRel.cons (.bool b) (LRel.nil m), b, rfl⟩
    · cases hok
  | .str, .inl t, fuel, cs, hok, ⟨x, hx, _⟩ => by
    unfold Ty.ok at hok
    split at hok
    · rename_i hu
      obtain ⟨b, rfl, _, hb⟩ := DataW.trod_string hu hx
      exact fun m H h => ⟨m, H, [.string b], h, Plan.le.refl m, Keep.refl _ _, LRel.cons (.string b) (LRel.nil m), b, rfl, hb⟩
    · cases hok
  | .slice e by_, .inl t, fuel, cs, hok, ⟨x, hx, hwt⟩ => by
    unfold Ty.ok at hok
    split at hok
    · rename_i te hu
      simp only [Bool.and_eq_true, beq_iff_eq, decide_eq_true_eq] at hok
      obtain ⟨⟨⟨⟨hok, hz⟩, hby⟩, _⟩, h0⟩ := hok
      rcases open_slice hu hx with ⟨rfl, rfl⟩ | ⟨a, len, cap0, cap, n, D, Pl, rfl, _, hl, hm, hmm, rfl, hel⟩
      · exact fun m H h => ⟨m, H, [.slice none 0 0], h, Plan.le.refl m, Keep.refl _ _, LRel.cons .nilslice (LRel.nil m), none, 0, 0, [], rfl, ⟨by simp, .inl ⟨rfl, rfl, rfl⟩⟩, rfl, by simp, by omega⟩
      · simp only [if_true] at hmm
        subst hmm
        have hw1 : ∀ i, i < cap → ∀ w ∈ (D i).weights P te, w ≤ reachBytes := by
          intro i hi w hw
          refine hwt w ?_
          simp only [DataW.weights, hu, List.mem_cons, List.mem_append]
          right
          by_cases hil : i < len
          · exact .inl (weightsAll_mem (List.mem_map.2 ⟨i, by simpa using hil, rfl⟩) hw)
          · exact .inr (weightsAll_mem (List.mem_map.2 ⟨i - len, by simp; omega, by rw [show len + (i - len) = i by omega]⟩) hw)
        have hw0 : cap * by_ ≤ reachBytes := by
          have := hwt ((((List.range len).map D).length + ((List.range (cap - len)).map fun j => D (len + j)).length) * P.bytesOf te) (by simp only [DataW.weights, hu]; exact List.mem_cons_self ..)
          simp only [List.length_map, List.length_range, hby] at this
          rwa [show len + (cap - len) = cap by omega] at this
        intro m H h
        have key : ∀ i, i ≤ cap → ∃ (m' : Plan) (H' : Heap) (vss : List (List Value)), In m' H' W ∧ Plan.le m m' ∧ Keep H.next H H' ∧ vss.length = i ∧ (∀ x ∈ vss, x.length = e.z ∧ Holds H' e x) ∧ vss.flatten.length = i * e.z ∧ CellsRel m' W a vss.flatten := by
          intro i
          induction i with
          | zero => exact fun _ => ⟨m, H, [], h, Plan.le.refl m, Keep.refl _ _, rfl, by simp, by simp, fun i v hv => by simp at hv⟩
          | succ i ih =>
            intro hi
            obtain ⟨m1, H1, vss, g1, g2, g3, g4, g5, g6, g7⟩ := ih (by omega)
            obtain ⟨cs', c1, c2⟩ := hel i (by omega)
            obtain ⟨_, cl, cg⟩ := World.cells?_some c1
            obtain ⟨m2, H2, ds, k1, k2, k3, k4, k5⟩ := Opened.of e (.inl te) n cs' hok ⟨_, c2, hw1 i (by omega)⟩ m1 H1 g1
            have dl := k5.len
            refine ⟨m2, H2, vss ++ [ds], k1, Plan.le.trans g2 k2, g3.trans (k3.weak g3.next), by simp [g4], ?_, by simp [g6, dl, Nat.add_mul], ?_⟩
            · intro x hx
              rcases List.mem_append.1 hx with hx | hx
              · exact ⟨(g5 x hx).1, (g5 x hx).2.keep k3⟩
              · simp only [List.mem_singleton] at hx
                subst hx
                exact ⟨dl, k5⟩
            · intro j v hv
              rw [List.flatten_append, List.flatten_singleton] at hv
              by_cases hj : j < vss.flatten.length
              · rw [List.getElem?_append_left hj] at hv
                obtain ⟨o1, v', o2, o3⟩ := g7 j v hv
                exact ⟨o1, v', o2, o3.mono k2⟩
              · rw [List.getElem?_append_right (by omega), g6] at hv
                have hjl := (List.getElem?_eq_some_iff.1 hv).1
                obtain ⟨v', e1, e2⟩ := k4.get hv
                refine ⟨k5.one v (List.mem_of_getElem? hv), v', ?_, e2⟩
                have e1 : cs'[j - i * e.z]? = some v' := e1
                have := cg (j - i * e.z) (by rw [hz]; omega)
                rw [hz, add_add, e1] at this
                rw [← this, show i * e.z + (j - i * e.z) = j by omega]
        obtain ⟨m1, H1, vss, g1, g2, g3, g4, g5, g6, g7⟩ := key cap (Nat.le_refl _)
        obtain ⟨g8, g9⟩ := g1.add a (cap * e.z) _ g7
        have kp : Keep H1.next H1 (H1.push (.row vss.flatten false)) := Keep.push _ (Nat.le_refl _)
        have ft : (vss.take len).flatten = vss.flatten.take (len * e.z) := by
          have e1 : vss.flatten = (vss.take len).flatten ++ (vss.drop len).flatten := by rw [← List.flatten_append, List.take_append_drop]
          have e2 : (vss.take len).flatten.length = len * e.z := by
            have : ∀ (l : List (List Value)), (∀ x ∈ l, x.length = e.z) → l.flatten.length = l.length * e.z := by
              intro l
              induction l with
              | nil => intro _; simp
              | cons x l ih => intro hl; rw [List.flatten_cons, List.length_append, ih (fun y hy => hl y (by simp [hy])), hl x (by simp), List.length_cons, Nat.add_mul]; omega
            rw [this _ fun x hx => (g5 x (List.mem_of_mem_take hx)).1, List.length_take, Nat.min_eq_left (by omega)]
          rw [e1, ← e2, List.take_left]
        have hlz : len * e.z ≤ cap * e.z := Nat.mul_le_mul_right _ hl
        refine ⟨_, _, [.slice (some ⟨H1.next, 0, none⟩) len (UNK e.z)], g8, Plan.le.trans g2 g9, g3.trans (kp.weak g3.next), LRel.cons ?_ (LRel.nil _), some ⟨H1.next, 0, none⟩, len, UNK e.z, vss.take len, rfl, ⟨?_, .inr (.inr ⟨H1.next, 0, rfl, rfl, by simp, vss.flatten, false, by simp, ?_, ?_⟩)⟩, by simp; omega, fun x hx => ⟨(g5 x (List.mem_of_mem_take hx)).1, (g5 x (List.mem_of_mem_take hx)).2.keep kp⟩, Nat.le_trans (Nat.mul_le_mul_right _ hl) hw0⟩
        · have := VRel.slice (m := m1.add H1.next ⟨a, cap * e.z⟩) (b := H1.next) (o := 0) (n := len) (c := UNK e.z) (c' := cap) (e := ⟨a, cap * e.z⟩) (by simp [Plan.add]) hl hm (by intro _; simp [UNK]) (by intro h; exact absurd h (by unfold UNK; omega))
          rwa [add_zero] at this
        · rw [ft, List.length_take, g6, Nat.min_eq_left hlz]
        · rw [ft, List.length_take, g6, Nat.min_eq_left hlz]; omega
        · rw [ft, List.drop_zero, List.length_take, g6, Nat.min_eq_left hlz]
    · cases hok
  | .strct f, .inl t, fuel, cs, hok, ⟨x, hx, hwt⟩ => by
    unfold Ty.ok at hok
    split at hok
    · rename_i fs hu
      simp only [Bool.and_eq_true, beq_iff_eq] at hok
      obtain ⟨xs, n, rfl, rfl, hl, hxl, hg⟩ := DataW.trod_struct hu hx
      have := Opened.of f (.inr (fs.toList, 0, P.cellsOf t)) n cs hok.1 ⟨hl, xs, by simpa using hxl, fun i f hf => hg i f (by simpa using hf), fun w hw => hwt w (by simp only [DataW.weights, hu]; exact hw)⟩
      rw [show cut cs (.inr (fs.toList, 0, P.cellsOf t)) = cs from List.drop_zero] at this
      exact this
    · cases hok
  | .unit, .inr (fs, o, n), fuel, cs, hok, ⟨hl, _⟩ => by
    unfold Ty.ok at hok
    simp only [Bool.and_eq_true, beq_iff_eq] at hok
    have : cut cs (.inr (fs, o, n)) = [] := List.drop_eq_nil_of_le (by omega)
    rw [this]
    exact fun m H h => ⟨m, H, [], h, Plan.le.refl m, Keep.refl _ _, LRel.nil m, rfl⟩
  | .pair t u, .inr (fs, o, n), fuel, cs, hok, ⟨hl, xs, hxl, hg, hwt⟩ => by
    unfold Ty.ok at hok
    match fs, xs, hxl with
    | [], _, _ => cases hok
    | f :: fs, [], h => cases h
    | f :: fs, x :: xs, hxl =>
      simp only [Bool.and_eq_true, beq_iff_eq] at hok
      obtain ⟨⟨⟨ho, hc⟩, ht⟩, hu⟩ := hok
      have h1 := Opened.of t (.inl f.type) fuel ((cs.drop o).take t.z) ht ⟨x, by have := hg 0 f rfl; rw [ho, hc] at this; exact this, fun w hw => hwt w (by simp only [List.map_cons, DataW.weightsEach, List.mem_append]; exact .inl hw)⟩
      have h2 := Opened.of u (.inr (fs, o + t.z, n)) fuel cs hu ⟨hl, xs, by simpa using hxl, fun i f' hf => hg (i + 1) f' hf, fun w hw => hwt w (by simp only [List.map_cons, DataW.weightsEach, List.mem_append]; exact .inr hw)⟩
      intro m H h
      obtain ⟨m1, H1, d1, a1, a2, a3, a4, a5⟩ := h1 m H h
      obtain ⟨m2, H2, d2, b1, b2, b3, b4, b5⟩ := h2 m1 H1 a1
      refine ⟨m2, H2, d1 ++ d2, b1, Plan.le.trans a2 b2, a3.trans (b3.weak a3.next), ?_, d1, d2, rfl, a5.keep b3, b5⟩
      have e : cut cs (.inr (f :: fs, o, n)) = (cs.drop o).take t.z ++ cs.drop (o + t.z) := by
        show cs.drop o = _
        rw [← List.drop_drop, List.take_append_drop]
      rw [e]
      exact LRel.append (a4.mono b2) b4
end
/-- The value of cells. -/
def Ty.val : Ty → List Value → Value
  | .strct _, d => .agg d.toArray
  | _, d => d.headD (.bool false)
theorem Holds.rel {m : Plan} {H : Heap} {T : Ty} {d c : List Value} (hz : T.z = 1 ∨ ∃ f, T = .strct f) (h : Holds H T d) (r : LRel m d c) : VRel m (T.val d) (T.val c) := by
  by_cases hs : ∃ f, T = .strct f
  · obtain ⟨f, rfl⟩ := hs
    have h1 := h.one
    refine .agg (fun i v hv => h1 v ?_) (by simpa using r.1) fun i v v' h1 h2 => r.2 i v v' (by simpa using h1) (by simpa using h2)
    exact List.mem_of_getElem? (by simpa using hv)
  · have hz : T.z = 1 := by rcases hz with h | h; exact h; exact absurd h hs
    have hl := h.len
    rw [hz] at hl
    have hv : ∀ d : List Value, T.val d = d.headD (.bool false) := by
      intro d
      cases T <;> first | rfl | exact absurd ⟨_, rfl⟩ hs
    rw [hv, hv]
    match d, c, hl, r with
    | [v], [v'], _, r => exact r.head
    | [v], [], _, r => exact absurd r.1 (by simp)
    | [v], _ :: _ :: _, _, r => exact absurd r.1 (by simp)
def HoldsAll (H : Heap) : List Ty → List (List Value) → Prop
  | [], [] => True
  | T :: Ts, d :: ds => Holds H T d ∧ HoldsAll H Ts ds
  | _, _ => False
theorem HoldsAll.keep {H H' : Heap} (k : Keep H.next H H') : ∀ {Ts : List Ty} {ds : List (List Value)}, HoldsAll H Ts ds → HoldsAll H' Ts ds
  | [], [], h => h
  | T :: Ts, d :: ds, h => ⟨h.1.keep k, HoldsAll.keep k h.2⟩
  | [], _ :: _, h => h
  | _ :: _, [], h => h
theorem HoldsAll.cons {H : Heap} {T : Ty} {Ts : List Ty} : ∀ {ds : List (List Value)}, HoldsAll H (T :: Ts) ds → ∃ d ds', ds = d :: ds' ∧ Holds H T d ∧ HoldsAll H Ts ds'
  | [], h => h.elim
  | d :: ds, h => ⟨d, ds, rfl, h.1, h.2⟩
theorem HoldsAll.nil {H : Heap} : ∀ {ds : List (List Value)}, HoldsAll H [] ds → ds = []
  | [], _ => rfl
  | _ :: _, h => h.elim
theorem Holds.i {H : Heap} {K : IntKind} {vs : List Value} (h : Holds H (.int K) vs) : ∃ n, vs = [.int K n] ∧ (Lit.int K n).wf = true := h
theorem Holds.b {H : Heap} {vs : List Value} (h : Holds H .bool vs) : ∃ b, vs = [.bool b] := h
def vals : List Ty → List (List Value) → List Value
  | T :: Ts, d :: ds => T.val d :: vals Ts ds
  | _, _ => []
def OpenedAll (W : World) : List Ty → List (List Value) → Prop
  | [], [] => True
  | T :: Ts, c :: cs => (T.z = 1 ∨ ∃ f, T = .strct f) ∧ Opened W T c ∧ OpenedAll W Ts cs
  | _, _ => False
theorem OpenedAll.run {W : World} : ∀ {Ts : List Ty} {cs : List (List Value)}, OpenedAll W Ts cs → ∀ m H, In m H W → ∃ m' H' ds, In m' H' W ∧ Plan.le m m' ∧ Keep H.next H H' ∧ LRel m' (vals Ts ds) (vals Ts cs) ∧ HoldsAll H' Ts ds
  | [], [], _, m, H, h => ⟨m, H, [], h, Plan.le.refl m, Keep.refl _ _, LRel.nil m, trivial⟩
  | T :: Ts, c :: cs, o, m, H, h => by
    obtain ⟨m1, H1, d, a1, a2, a3, a4, a5⟩ := o.2.1 m H h
    obtain ⟨m2, H2, ds, b1, b2, b3, b4, b5⟩ := OpenedAll.run o.2.2 m1 H1 a1
    exact ⟨m2, H2, d :: ds, b1, Plan.le.trans a2 b2, a3.trans (b3.weak a3.next), LRel.cons ((a5.rel o.1 a4).mono b2) b4, a5.keep b3, b5⟩
/-- A law's call, from what it does in a heap. -/
theorem law_calls {P : Program} {good : Nat → Bool} (hn : CallOK P natC) (hm : P.follows .mixedOrders = true) (hgood : ∀ f fn c, good f = true → P.funcs[f]? = some fn → fn.body = some c → codeOk P c = true) {f : FuncId} {Ts : List Ty} {W : World} {cs : List (List Value)}
    (o : OpenedAll W Ts cs) (hx : ∀ H ds, HoldsAll H Ts ds → ∃ H', xC P good f (vals Ts ds) H = some (.bool true, H')) :
    Calls P f (vals Ts cs).toArray W fun e w' => e = .returned (.bool true) ∧ Below W.heap.size W w' := by
  obtain ⟨m, H, ds, h1, h2, h3, h4, h5⟩ := o.run _ _ (In.empty W)
  obtain ⟨H', hx⟩ := hx H ds h5
  exact h1.done hn hm hgood h4 hx
theorem Opened.arg {D : Type} {enc : TypeId × Value → D} {P : Program} {W : World} {T : Ty} {t : TypeId} {v : Value} {d : DataW D} {ps : List MemPlace} {ts : List TypeId} {ds : List (DataW D)} {j : Nat} (hT : T.ok P (.inl t) = true)
    (hsz : (DataW.weightsEach P ts ds).all (· ≤ reachBytes) = true) (ht : ts[j]? = some t) (hd : ds[j]? = some d) (h : DataW.Trod enc P W 0 (fun _ => true) true t v d ps) : Opened W T v.cells.toList := by
  obtain ⟨fuel, hf⟩ := h
  exact Opened.of (enc := enc) T (.inl t) fuel _ hT ⟨_, hf, fun w hw => by simpa using List.all_eq_true.1 hsz w (DataW.weights_mem_each ht hd w hw)⟩
/-- A slice of numbers. -/
theorem Holds.ints {H : Heap} {K : IntKind} {by_ : Nat} {vs : List Value} (h : Holds H (.slice (.int K) by_) vs) : ∃ a n k xs, vs = [.slice a n k] ∧ Ints K H a n k xs ∧ n * by_ ≤ 140737488351232 ∧ ∀ x ∈ xs, (Lit.int K x).wf = true := by
  obtain ⟨a, n, k, vss, rfl, s, l, i, b⟩ := h
  have key : ∀ vss : List (List Value), (∀ x ∈ vss, x.length = 1 ∧ Holds H (.int K) x) → ∃ xs : List Int, vss.flatten = xs.map (Value.int K) ∧ ∀ x ∈ xs, (Lit.int K x).wf = true := by
    intro vss
    induction vss with
    | nil => exact fun _ => ⟨[], rfl, by simp⟩
    | cons v vss ih =>
      intro h
      obtain ⟨xs, e, w⟩ := ih fun x hx => h x (by simp [hx])
      obtain ⟨_, x, rfl, hx⟩ := h v (by simp)
      exact ⟨x :: xs, by rw [List.flatten_cons, e]; rfl, fun y hy => by rcases List.mem_cons.1 hy with rfl | hy; exact hx; exact w y hy⟩
  obtain ⟨xs, e, w⟩ := key vss i
  rw [e] at s
  exact ⟨a, n, k, xs, rfl, s, b, w⟩
end Go.X
