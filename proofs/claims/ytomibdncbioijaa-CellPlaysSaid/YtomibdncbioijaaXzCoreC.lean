/- Operations that touch no memory: what they come to on abstract values. -/
import Derived.Test.YtomibdncbioijaaXzCoreB
import Derived.Laws.StructEq
set_option linter.unusedVariables false
set_option linter.unusedSimpArgs false
namespace Go.X
open Go Go.RowKit

/-- A Sem that asks the program alone. -/
def ev {α : Type} (P : Program) : Sem α → Option α
  | .pure a => some a
  | .program k => ev P (k P)
  | _ => none
theorem ev_run {α : Type} {P : Program} {s : Sem α} {a : α} (h : ev P s = some a) (w : World) : s.run P w = .ok a w := by
  induction s with
  | pure x => simp [ev] at h; subst h; rfl
  | program k ih => simp only [ev] at h; simp only [Sem.run]; exact ih P h
  | _ => simp [ev] at h

def scal : Value → Bool
  | .bool _ | .int _ _ | .string _ => true
  | _ => false
theorem VRel.scal {m : Plan} {v v' : Value} (h : VRel m v v') (hs : scal v = true) : v' = v := by cases h <;> first | rfl | cases hs
theorem VRel.scal' {m : Plan} {v v' : Value} (h : VRel m v v') : X.scal v' = X.scal v := by cases h <;> rfl

/-- Comparing with nil; structs, arrays, part by part. -/
def isNilV : Value → Option Bool
  | .pointer a => some a.isNone
  | .slice a _ _ => some a.isNone
  | .map a => some a.isNone
  | .nilFunc => some true
  | .func _ _ _ => some false
  | .nilIface => some true
  | .iface _ _ => some false
  | _ => none

def partA (P : Program) (t : TypeId) (cs : Array Value) (off : Nat) : Option Value :=
  match P.underlying t with
  | some (.struct _) | some (.array _ _) => match P.info? t with
    | some i => some (.agg (cs.extract off (off + i.size)))
    | none => none
  | some _ => cs[off]?
  | none => none

mutual
def xeq (P : Program) : Nat → TypeId → Value → Value → Option Bool
  | 0, _, _, _ => none
  | d + 1, t, x, y =>
    match P.underlying t, x, y with
      | some .bool, .bool a, .bool b => some (a == b)
      | some (.int _), .int k a, .int k' b => if k = k' then some (a == b) else none
      | some .string, .string a, .string b => some (a.toList == b.toList)
      | some (.struct fs), .agg xs, .agg ys => if P.stoodInHeld t then none else xeqL P d xs ys fs.toList
      | _, _, _ => none
def xeqL (P : Program) : Nat → Array Value → Array Value → List Field → Option Bool
  | 0, _, _, _ => none
  | _ + 1, _, _, [] => some true
  | d + 1, xs, ys, f :: fs => if f.name = "_" then none else
    match partA P f.type xs f.offset, partA P f.type ys f.offset with
    | some a, some b => match xeq P d f.type a b, xeqL P d xs ys fs with
      | some r, some q => some (r && q)
      | _, _ => none
    | _, _ => none
end

theorem part_run {P : Program} {t : TypeId} {cs : Array Value} {off : Nat} {v : Value} (h : partA P t cs off = some v) (w : World) : (part t cs off).run P w = .ok v w := by
  unfold partA at h
  unfold part isAgg
  simp only [Sem.run_bind]
  cases hu : P.underlying t with
  | none => rw [hu] at h; cases h
  | some d =>
    rw [hu] at h
    simp only [run_underlying hu, Result.andThen_ok]
    cases d <;> simp only [] at h <;> simp only [Sem.run_pure, Result.andThen_ok, if_true, Bool.false_eq_true, if_false]
    case struct fs =>
      cases hi : P.info? t with
      | none => rw [hi] at h; cases h
      | some i => rw [hi] at h; cases h; simp [sizeOf, typeInfo, hi]
    case array n e =>
      cases hi : P.info? t with
      | none => rw [hi] at h; cases h
      | some i => rw [hi] at h; cases h; simp [sizeOf, typeInfo, hi]
    all_goals (rw [h]; rfl)

theorem LRel.extract {m : Plan} {c c' : Array Value} (h : ARel m c c') (i j : Nat) : ARel m (c.extract i j) (c'.extract i j) := by
  simp only [ARel, Array.toList_extract, List.extract]
  exact (h.drop i).take (j - i)
theorem part_rel {P : Program} {m : Plan} {t : TypeId} {c c' : Array Value} {off : Nat} {v : Value} (h : partA P t c off = some v) (hr : ARel m c c') (h1 : ∀ v ∈ c.toList, v.oneCell' = true) : ∃ v', partA P t c' off = some v' ∧ VRel m v v' := by
  unfold partA at *
  have one : ∀ i, VRel m (.agg (c.extract off (off + i))) (.agg (c'.extract off (off + i))) := fun i =>
    VRel.agg_iff.2 ⟨_, rfl, LRel.extract hr _ _, fun v hv => h1 v (by
      simp only [Array.toList_extract, List.extract] at hv
      exact List.mem_of_mem_drop (List.mem_of_mem_take hv))⟩
  have plain : ∀ v, c[off]? = some v → ∃ v', c'[off]? = some v' ∧ VRel m v v' := fun v hv => by
    obtain ⟨v', a, b⟩ := hr.get (i := off) (v := v) (by simpa using hv)
    exact ⟨v', by simpa using a, b⟩
  cases hu : P.underlying t with
  | none => rw [hu] at h; cases h
  | some d =>
    rw [hu] at h
    cases d <;> simp only [] at h ⊢
    case struct fs =>
      cases hi : P.info? t with
      | none => rw [hi] at h; cases h
      | some i => rw [hi] at h; cases h; exact ⟨_, rfl, one _⟩
    case array n e =>
      cases hi : P.info? t with
      | none => rw [hi] at h; cases h
      | some i => rw [hi] at h; cases h; exact ⟨_, rfl, one _⟩
    all_goals exact plain v h

theorem xeq_rel {P : Program} {m : Plan} : ∀ (d : Nat), (∀ (t : TypeId) (x y x' y' : Value) (b : Bool), xeq P d t x y = some b → VRel m x x' → VRel m y y' → xeq P d t x' y' = some b) ∧
    (∀ (xs ys xs' ys' : Array Value) (fs : List Field) (b : Bool), xeqL P d xs ys fs = some b → ARel m xs xs' → ARel m ys ys' → (∀ v ∈ xs.toList, v.oneCell' = true) → (∀ v ∈ ys.toList, v.oneCell' = true) → xeqL P d xs' ys' fs = some b) := by
  intro d
  induction d with
  | zero => exact ⟨fun t x y x' y' b h => by simp [xeq] at h, fun xs ys xs' ys' fs b h => by simp [xeqL] at h⟩
  | succ d ih =>
    constructor
    · intro t x y x' y' b h hx hy
      unfold xeq at h ⊢
      cases hu : P.underlying t with
      | none => simp [hu] at h
      | some ud =>
        simp only [hu] at h ⊢
        cases ud <;> try (simp at h; done)
        case bool => cases x <;> try (simp at h; done)
                     cases y <;> try (simp at h; done)
                     cases hx; cases hy; exact h
        case int k => cases x <;> try (simp at h; done)
                      cases y <;> try (simp at h; done)
                      cases hx; cases hy; exact h
        case string => cases x <;> try (simp at h; done)
                       cases y <;> try (simp at h; done)
                       cases hx; cases hy; exact h
        case struct fs =>
          cases x <;> try (simp at h; done)
          cases y <;> try (simp at h; done)
          obtain ⟨c', rfl, a1, a2⟩ := VRel.agg_iff.1 hx
          obtain ⟨e', rfl, b1, b2⟩ := VRel.agg_iff.1 hy
          simp only at h ⊢
          split at h
          · cases h
          · rename_i hs
            simp only [hs, Bool.false_eq_true, if_false]
            exact ih.2 _ _ _ _ _ _ h a1 b1 a2 b2
    · intro xs ys xs' ys' fs b h hx hy h1 h2
      cases fs with
      | nil => simpa [xeqL] using h
      | cons f fs =>
        unfold xeqL at h ⊢
        split at h
        · cases h
        · rename_i hf
          rw [if_neg hf]
          cases ha : partA P f.type xs f.offset with
          | none => simp [ha] at h
          | some a =>
            cases hb : partA P f.type ys f.offset with
            | none => simp [ha, hb] at h
            | some b0 =>
              obtain ⟨a', ha', ra⟩ := part_rel ha hx h1
              obtain ⟨b', hb', rb⟩ := part_rel hb hy h2
              simp only [ha, hb, ha', hb'] at h ⊢
              cases hq : xeq P d f.type a b0 with
              | none => simp [hq] at h
              | some r =>
                rw [ih.1 _ _ _ _ _ _ hq ra rb]
                rw [hq] at h
                cases hq2 : xeqL P d xs ys fs with
                | none => simp [hq2] at h
                | some q =>
                  rw [hq2] at h
                  rw [ih.2 _ _ _ _ _ _ hq2 hx hy h1 h2]
                  exact h

theorem xeq_run {P : Program} : ∀ (d : Nat), (∀ (t : TypeId) (x y : Value) (b : Bool), xeq P d t x y = some b → ∀ D, d ≤ D → ∀ w, (Op.equalIn D t x y).run P w = .ok b w) ∧
    (∀ (xs ys : Array Value) (fs : List Field) (b : Bool), xeqL P d xs ys fs = some b → ∀ D, d ≤ D + 1 → ∀ w, (Op.eqFields D xs ys fs).run P w = .ok b w) := by
  intro d
  induction d with
  | zero => exact ⟨fun t x y b h => by simp [xeq] at h, fun xs ys fs b h => by simp [xeqL] at h⟩
  | succ d ih =>
    constructor
    · intro t x y b h D hD w
      obtain ⟨D, rfl⟩ : ∃ k, D = k + 1 := ⟨D - 1, by omega⟩
      unfold xeq at h
      cases hu : P.underlying t with
      | none => simp [hu] at h
      | some ud =>
        simp only [hu] at h
        cases ud <;> try (simp at h; done)
        case bool => cases x <;> try (simp at h; done)
                     cases y <;> try (simp at h; done)
                     rw [run_equalIn_bool' w D t _ _ hu]; simp at h; rw [h]
        case int k => cases x <;> try (simp at h; done)
                      cases y <;> try (simp at h; done)
                      simp only at h; split at h
                      · rename_i hk; subst hk; rw [run_equalIn_int w D t _ k _ _ hu]; simp at h; rw [h]
                      · cases h
        case string => cases x <;> try (simp at h; done)
                       cases y <;> try (simp at h; done)
                       rw [run_equalIn_string w D t _ _ hu]; simp at h; rw [h]
        case struct fs =>
          cases x <;> try (simp at h; done)
          cases y <;> try (simp at h; done)
          simp only at h
          split at h
          · cases h
          · rename_i hs
            have hfs : P.fieldsOf t = fs := by simp [Program.fieldsOf, hu]
            rw [run_equalIn_struct w D t _ _ (by rw [hfs]; exact hu) (by simpa using hs), hfs]
            exact ih.2 _ _ _ _ h D (by omega) w
    · intro xs ys fs b h D hD w
      cases fs with
      | nil => simp [xeqL] at h; subst h; simp [Op.eqFields]
      | cons f fs =>
        unfold xeqL at h
        split at h
        · cases h
        · rename_i hf
          cases ha : partA P f.type xs f.offset with
          | none => simp [ha] at h
          | some a =>
            cases hb : partA P f.type ys f.offset with
            | none => simp [ha, hb] at h
            | some b0 =>
              simp only [ha, hb] at h
              simp only [Op.eqFields, ne_eq, hf, not_false_eq_true, if_true, Sem.run_bind, part_run ha, part_run hb, Result.andThen_ok]
              cases hq : xeq P d f.type a b0 with
              | none => simp [hq] at h
              | some r =>
                rw [ih.1 _ _ _ _ hq D (by omega) w]
                rw [hq] at h
                cases hq2 : xeqL P d xs ys fs with
                | none => simp [hq2] at h
                | some q =>
                  rw [hq2] at h
                  simp only [Option.some.injEq] at h
                  cases r with
                  | true => simp only [Result.andThen_ok, Bool.not_true, Bool.false_eq_true, if_false]; rw [ih.2 _ _ _ _ hq2 D (by omega) w]; simp at h; rw [h]
                  | false => simp at h; subst h; simp

end Go.X
