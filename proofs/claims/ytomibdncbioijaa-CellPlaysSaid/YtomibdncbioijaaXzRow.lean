/- From a world's arguments to a heap, and back. -/
import Derived.Test.YtomibdncbioijaaXzPl
import Derived.Below
set_option linter.unusedVariables false
set_option linter.unusedSimpArgs false
namespace Go.X
open Go Go.RowKit

def Plan.add (m : Plan) (b : Nat) (e : Ent) : Plan := fun i => if i = b then some e else m i

/-- A heap of rows that are read only. -/
structure In (m : Plan) (H : Heap) (w : World) : Prop where
  rel : HRel m H w
  ro : ∀ b, m b ≠ none → (H.get b).ownB = false
theorem In.empty (w : World) : In (fun _ => none) Heap.empty w :=
  ⟨⟨fun _ _ => rfl, fun _ _ h => by simp at h, fun _ _ _ _ _ h => by simp at h⟩, fun _ h => by simp at h⟩
theorem In.add {m : Plan} {H : Heap} {w : World} (h : In m H w) (a : Addr) (cells : Nat) (cs : List Value) (hc : CellsRel m w a cs) :
    In (m.add H.next ⟨a, cells⟩) (H.push (.row cs false)) w ∧ Plan.le m (m.add H.next ⟨a, cells⟩) := by
  have hle : Plan.le m (m.add H.next ⟨a, cells⟩) := by
    intro b e hb
    unfold Plan.add
    rw [if_neg]
    · exact hb
    · rintro rfl
      rw [h.rel.dom _ (Nat.le_refl _)] at hb
      cases hb
  have hro : ∀ b, m.add H.next ⟨a, cells⟩ b ≠ none → ((H.push (.row cs false)).get b).ownB = false := by
    intro b hb
    by_cases hbn : b = H.next
    · subst hbn; rw [Heap.get_push_same]; rfl
    · rw [Heap.get_push_ne _ _ _ hbn]
      unfold Plan.add at hb
      rw [if_neg hbn] at hb
      exact h.ro b hb
  refine ⟨⟨⟨?_, ?_, ?_⟩, hro⟩, hle⟩
  · intro b hb
    have hb : H.next + 1 ≤ b := hb
    unfold Plan.add
    rw [if_neg (by omega)]
    exact h.rel.dom b (by omega)
  · intro b e hb
    by_cases hbn : b = H.next
    · subst hbn
      unfold Plan.add at hb
      rw [if_pos rfl] at hb
      cases hb
      rw [Heap.get_push_same]
      exact CellsRel.keep hle (fun _ => rfl) hc
    · rw [Heap.get_push_ne _ _ _ hbn]
      unfold Plan.add at hb
      rw [if_neg hbn] at hb
      exact (h.rel.obj b e hb).keep hle (Nat.le_refl _) fun _ => rfl
  · intro b1 b2 e1 e2 hne h1 h2 ho _
    rw [hro b1 (by rw [h1]; simp)] at ho
    cases ho

/-- A slice of numbers, as the rows' openings tell it. -/
theorem In.ints {m : Plan} {H : Heap} {w : World} (h : In m H w) {k : IntKind} {a : Option Addr} {len cap : Nat} {zs : List Int}
    (hw : (a = none ∧ len = 0 ∧ cap = 0 ∧ zs = []) ∨ ∃ x, a = some x ∧ len ≤ cap ∧ cap ≤ maxLen ∧ zs.length = cap ∧ (∀ i, i < zs.length → w.cell? (x.add i) = some (.int k (zs.getD i 0))) ∧ ∀ n ∈ zs, (Lit.int k n).wf = true) :
    ∃ m' H' a' k' xs, In m' H' w ∧ Plan.le m m' ∧ Keep H.next H H' ∧ VRel m' (.slice a' len k') (.slice a len cap) ∧ Sl H' 1 a' len k' (xs.map (Value.int k)) ∧ (∀ n ∈ xs, (Lit.int k n).wf = true) ∧ xs = zs.take len := by
  rcases hw with ⟨rfl, rfl, rfl, rfl⟩ | ⟨x, rfl, hl, hm, hz, hc, hwf⟩
  · exact ⟨m, H, none, 0, [], h, Plan.le.refl m, Keep.refl _ _, .nilslice, ⟨rfl, .inl ⟨rfl, rfl, rfl⟩⟩, by simp, rfl⟩
  · have hcells : CellsRel m w x (zs.map (Value.int k)) := by
      intro i v hv
      rw [List.getElem?_map] at hv
      obtain ⟨n, hn, rfl⟩ := Option.map_eq_some_iff.1 hv
      have hi := (List.getElem?_eq_some_iff.1 hn).1
      refine ⟨rfl, _, hc i hi, ?_⟩
      rw [List.getD, hn]
      exact .int _ _
    obtain ⟨h1, h2⟩ := h.add x cap _ hcells
    refine ⟨_, _, some ⟨H.next, 0, none⟩, UNK 1, zs.take len, h1, h2, Keep.push _ (Nat.le_refl _), ?_, ⟨by first | (simp; done) | (simp; omega), .inr (.inr ⟨H.next, 0, rfl, rfl, by simp, zs.map (Value.int k), false, by simp, by first | (simp; done) | (simp; omega), ?_⟩)⟩, fun n hn => hwf n (List.mem_of_mem_take hn), rfl⟩
    · have := VRel.slice (m := m.add H.next ⟨x, cap⟩) (b := H.next) (o := 0) (n := len) (c := UNK 1) (c' := cap) (e := ⟨x, cap⟩) (by simp [Plan.add]) hl hm (by intro _; simp [UNK]) (by intro h; exact absurd h (by unfold UNK; omega))
      rwa [add_zero] at this
    · rw [List.drop_zero, List.map_take]
      congr 1
      simp
      omega

theorem In.done {P : Program} {good : Nat → Bool} (hn : CallOK P natC) (hm : P.follows .mixedOrders = true) (hgood : ∀ f fn c, good f = true → P.funcs[f]? = some fn → fn.body = some c → codeOk P c = true) {f : FuncId} {args : List Value} {H' : Heap}
    {m : Plan} {H : Heap} {w : World} {args' : List Value} (h : In m H w) (ha : LRel m args args') (hx : xC P good f args H = some (.bool true, H')) :
    Calls P f args'.toArray w fun e w' => e = .returned (.bool true) ∧ Below w.heap.size w w' := by
  refine (xC_calls hn hm hgood hx h.rel ha).mono fun e w' ⟨v', m', he, hv, hr, hf⟩ => ?_
  cases hv
  exact ⟨he, hf.below fun b hb => by
    by_cases hn : m b = none
    · exact hn
    · rw [h.ro b hn] at hb; cases hb⟩
end Go.X
