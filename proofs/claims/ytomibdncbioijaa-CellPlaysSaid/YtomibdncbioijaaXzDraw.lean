/- Drawn regions whose order counts, step by step, short to print. -/
import Derived.Test.YtomibdncbioijaaXzOps
set_option linter.unusedVariables false
set_option linter.unusedSimpArgs false
namespace Go.X
open Go Go.RowKit

section
variable {P : Program} {good : Nat → Bool} {fn : Func} {s : List It} {ts : Ts} {H H' Gc : Heap} {r : Value × Heap} {ops : Array Oper} {i base : Nat} {v : Value} {G : List Heap} {rows : List (Nat × NewRow)} {prev : Option Nat} {rds : List (Nat × Ts × Value)}

def KE (P : Program) (good : Nat → Bool) (fn : Func) (ops : Array Oper) (base : Nat) (s : List It) (i : Nat) (ts : Ts) (G : List Heap) (rows : List (Nat × NewRow)) (prev : Option Nat) (rds : List (Nat × Ts × Value)) (r : Value × Heap) : Prop :=
  ∀ v, KD P good fn ops (Region.before ops) base s (ops.size - i) i ⟨ts, G, rows, prev, v, rds⟩ r
def isDraw : Code → Bool
  | .region _ _ true => true
  | _ => false
theorem KE.start {c : Code} (G0 : Heap) (hc : isDraw c = true) (hG : reserve H (nRes P (opsAt c)) = G0) (h : KE P good fn (opsAt c) H.next s 0 ts [G0] [] none [] r) : KR P good fn (.code c :: s) ts H r := by
  cases c with
  | region id ops draw => cases draw with
    | true => exact KD.start (by rw [show reserve H (nRes P ops) = G0 from hG]; exact h undef)
    | false => cases hc
  | _ => cases hc

theorem KE.step {o : Oper} (ho : ops[i]? = some o) {ts' : Ts} {G' : List Heap} {rows' : List (Nat × NewRow)} {prev' : Option Nat} {rds' : List (Nat × Ts × Value)}
    (hd : ∀ v, ∃ v', dstep P (xC P good) ops (Region.before ops) base i ⟨ts, G, rows, prev, v, rds⟩ = some ⟨ts', G', rows', prev', v', rds'⟩) (h : KE P good fn ops base s (i + 1) ts' G' rows' prev' rds' r) : KE P good fn ops base s i ts G rows prev rds r := by
  intro v
  obtain ⟨v', hv⟩ := hd v
  have hlt := lt_of_some ho
  rw [show ops.size - i = (ops.size - (i + 1)) + 1 by omega]
  exact KD.step hv (h v')
theorem KE.p (hx : POne P ops i ts v) (h : KE P good fn ops base s (i + 1) (putL ts (dstOf ops i) v) G rows prev rds r) : KE P good fn ops base s i ts G rows prev rds r := by
  obtain ⟨o, ho, hw, hc, hv⟩ := hx.ex
  rw [dstOf_some ho] at h
  exact KE.step ho (fun w => ⟨_, ds_P ho hw hc hv⟩) h
def flo (P : Program) (ops : Array Oper) (i : Nat) : Nat × Nat := (cnt (fun j => serOf P ops j && bB (Region.before ops) i j) ops.size, cnt (fun j => serOf P ops j && !bB (Region.before ops) j i) ops.size)
/-- A read at a fixed stage. -/
theorem KE.rdN (hx : ROne P ops i ts Gc v) (hG : (fun x : Nat × Nat => (G.getD x.1 noHeap, Nat.blt x.1 x.2)) (flo P ops i) = (Gc, false)) (h : KE P good fn ops base s (i + 1) (putL ts (dstOf ops i) v) G rows prev rds r) : KE P good fn ops base s i ts G rows prev rds r := by
  obtain ⟨o, ho, hw, hc, hv⟩ := hx.ex
  rw [dstOf_some ho] at h
  simp only [flo, Prod.mk.injEq] at hG
  refine KE.step ho (fun w => ⟨v, ?_⟩) h
  have := ds_R (call := xC P good) (b := Region.before ops) (base := base) (σ := ⟨ts, G, rows, prev, w, rds⟩) ho hw hc hG.1 hv
  rw [this, if_neg (by intro hlt; have := hG.2; rw [← Nat.blt_eq] at hlt; rw [hlt] at this; cases this)]
/-- A read that may come later, too. -/
theorem KE.rdF (hx : ROne P ops i ts Gc v) (hG : (fun x : Nat × Nat => (G.getD x.1 noHeap, Nat.blt x.1 x.2)) (flo P ops i) = (Gc, true)) (h : KE P good fn ops base s (i + 1) (putL ts (dstOf ops i) v) G rows prev (rds ++ [(i, ts, v)]) r) : KE P good fn ops base s i ts G rows prev rds r := by
  obtain ⟨o, ho, hw, hc, hv⟩ := hx.ex
  rw [dstOf_some ho] at h
  simp only [flo, Prod.mk.injEq] at hG
  refine KE.step ho (fun w => ⟨v, ?_⟩) h
  have := ds_R (call := xC P good) (b := Region.before ops) (base := base) (σ := ⟨ts, G, rows, prev, w, rds⟩) ho hw hc hG.1 hv
  rw [this, if_pos (by rw [← Nat.blt_eq]; exact hG.2)]
theorem KE.se (hx : SOne P good ops i ts Gc v H') (hG : setRows base (G.getLastD noHeap) (pickRows (Region.before ops) rows (some i) prev) = Gc) (h : KE P good fn ops base s (i + 1) (putL ts (dstOf ops i) v) (G ++ [H']) rows (some i) rds r) : KE P good fn ops base s i ts G rows prev rds r := by
  obtain ⟨o, ho, hw, hv⟩ := hx.ex
  rw [dstOf_some ho] at h
  rcases hv with ⟨hc, hv⟩ | ⟨hc, f, args, h1, h2⟩
  · exact KE.step ho (fun w => ⟨_, ds_S ho hw hc hG hv⟩) h
  · exact KE.step ho (fun w => ⟨_, ds_C ho hw hc hG h1 h2⟩) h
theorem KE.mk {w : NewRow} (hx : AOne P ops i ts w) (hs : serOf P ops i = true) (hG : setRows base (G.getLastD noHeap) (pickRows (Region.before ops) rows (some i) prev) = Gc) (hH : H' = Gc.push (.row w.cs true))
    (h : KE P good fn ops base s (i + 1) (putL ts (dstOf ops i) (w.val Gc.next)) (G ++ [H']) rows (some i) rds r) : KE P good fn ops base s i ts G rows prev rds r := by
  obtain ⟨o, ho, hw, hc, hv⟩ := hx.ex
  rw [dstOf_some ho] at h
  subst hH
  exact KE.step ho (fun w => ⟨_, ds_A ho hw hc hs hG hv⟩) h
theorem KE.al {w : NewRow} (hx : AOne P ops i ts w) (hs : serOf P ops i = false) (h : KE P good fn ops base s (i + 1) (putL ts (dstOf ops i) (w.val (base + i))) G (rows ++ [(i, w)]) prev rds r) : KE P good fn ops base s i ts G rows prev rds r := by
  obtain ⟨o, ho, hw, hc, hv⟩ := hx.ex
  rw [dstOf_some ho] at h
  exact KE.step ho (fun w => ⟨_, ds_B ho hw hc hs hv⟩) h
def offChk (ops : Array Oper) (i : Nat) (ts : Ts) : Bool :=
  match ops[i]? with
  | some o => !Region.wanted o (yieldedL ops ts)
  | none => false
/-- What is not wanted, of those that count. -/
theorem KE.no (hx : offChk ops i ts = true) (hs : serOf P ops i = true) (hG : setRows base (G.getLastD noHeap) (pickRows (Region.before ops) rows (some i) prev) = Gc) (h : KE P good fn ops base s (i + 1) (putL ts (dstOf ops i) undef) (G ++ [Gc]) rows (some i) rds r) : KE P good fn ops base s i ts G rows prev rds r := by
  unfold offChk at hx
  cases ho : ops[i]? with
  | none => rw [ho] at hx; cases hx
  | some o =>
    rw [ho] at hx
    simp only [Bool.not_eq_true'] at hx
    rw [dstOf_some ho] at h
    exact KE.step ho (fun w => ⟨_, ds_M ho hx hs hG⟩) h

/-- Many that touch no memory. -/
def dP (P : Program) (ops : Array Oper) : Nat → Nat → Ts → Option Ts
  | 0, _, ts => some ts
  | n + 1, i, ts => match ops[i]? with
    | none => none
    | some o => if Region.wanted o (yieldedL ops ts) then (match clsOf P o with
        | .P => match xP P (rho ts) o with
          | some v => dP P ops n (i + 1) (putL ts o.dst v)
          | none => none
        | _ => none)
      else if serOf P ops i then none else dP P ops n (i + 1) (putL ts o.dst undef)
theorem KE.many : ∀ (n : Nat) {i : Nat} {ts ts' : Ts}, dP P ops n i ts = some ts' → KE P good fn ops base s (i + n) ts' G rows prev rds r → KE P good fn ops base s i ts G rows prev rds r := by
  intro n
  induction n with
  | zero => intro i ts ts' h hk; simp only [dP, Option.some.injEq] at h; subst h; exact hk
  | succ n ih =>
    intro i ts ts' h hk
    unfold dP at h
    cases ho : ops[i]? with
    | none => rw [ho] at h; cases h
    | some o =>
      rw [ho] at h
      simp only at h
      rw [show i + (n + 1) = (i + 1) + n by omega] at hk
      split at h
      · rename_i hw
        cases hc : clsOf P o <;> rw [hc] at h <;> try (cases h; done)
        cases hv : xP P (rho ts) o with
        | none => rw [hv] at h; cases h
        | some v => rw [hv] at h; exact KE.step ho (fun w => ⟨_, ds_P ho hw hc hv⟩) (ih h hk)
      · rename_i hw
        split at h
        · cases h
        · rename_i hs
          exact KE.step ho (fun w => ⟨_, ds_N ho (by simpa using hw) (by simpa using hs)⟩) (ih h hk)
theorem KE.run (n : Nat) (al : List (Nat × Value)) (N i' : Nat) (h : (dP P ops n i ts).map (fun t => (t.length, i + n, al.map (fun p => (p.1, t.getD p.1 undef)))) = some (N, i', al)) (hk : ∀ J, KE P good fn ops base s i' (mat J N al) G rows prev rds r) : KE P good fn ops base s i ts G rows prev rds r := by
  obtain ⟨ts1, hx, he⟩ := Option.map_eq_some_iff.1 h
  simp only [Prod.mk.injEq] at he
  obtain ⟨rfl, rfl, h3⟩ := he
  refine KE.many n hx ?_
  have := hk fun t => ts1.getD t undef
  rwa [mat_of ts1 al h3] at this
theorem KE.setV (d : Nat) {v w : Value} (hx : ts.getD d undef = v) (he : v = w) (h : KE P good fn ops base s i (ts.set d w) G rows prev rds r) : KE P good fn ops base s i ts G rows prev rds r := by
  subst he; subst hx
  have : ts.set d (ts.getD d undef) = ts := by
    refine List.ext_getElem (by simp) fun j h1 h2 => ?_
    rw [List.getElem_set]
    split
    · rename_i hj; subst hj; simp [List.getD, h2]
    · rfl
  rwa [this] at h
theorem KE.fin (hN : ops.size = i) (h1 : rds.all (rdOk P ops (Region.before ops) G) = true) (hH : setRows base (G.getLastD noHeap) (pickRows (Region.before ops) rows none prev) = H') (h : KR P good fn s ts H' r) : KE P good fn ops base s i ts G rows prev rds r := by
  intro v
  rw [show ops.size - i = 0 by omega]
  exact KD.done h1 rfl hH h

/-! #### reads that may come later -/
def v1Self : Value → Bool
  | .bool _ | .int _ _ | .string _ | .pointer _ | .slice _ _ _ | .map _ | .nilFunc | .nilIface => true
  | _ => false
def vSelf : Value → Bool
  | .agg a => a.toList.all v1Self
  | v => v1Self v
theorem v1eq_self {v : Value} (h : v1Self v = true) : v1eq v v = true := by
  cases v <;> first | (simp [v1eq]; done) | cases h
theorem lEq_self : ∀ {l : List Value}, l.all v1Self = true → lEq l l = true
  | [], _ => rfl
  | a :: l, h => by
    simp only [List.all_cons, Bool.and_eq_true] at h
    simp only [lEq, v1eq_self h.1, lEq_self h.2, Bool.and_self]
theorem vEq_self {v : Value} (h : vSelf v = true) : vEq v v = true := by
  cases v <;> first | (simp [vEq, v1eq]; done) | (exact lEq_self h) | (cases h; done)
theorem rdsS {f : Nat × Ts × Value → Bool} {l : List (Nat × Ts × Value)} {x : Nat × Ts × Value} (h1 : l.all f = true) (h2 : f x = true) : (l ++ [x]).all f = true := by simp [h1, h2]
def AllR (P : Program) (ops : Array Oper) (i : Nat) (ts : Ts) (v : Value) : List Heap → Prop
  | [] => True
  | H :: l => ROne P ops i ts H v ∧ AllR P ops i ts v l
theorem AllR.get : ∀ {l : List Heap} {j : Nat} {H : Heap}, AllR P ops i ts v l → l[j]? = some H → ROne P ops i ts H v
  | [], _, _, _, h => by simp at h
  | _ :: l, 0, _, h, e => by simp at e; subst e; exact h.1
  | _ :: l, j + 1, _, h, e => AllR.get h.2 (by simpa using e)
def laterG (P : Program) (ops : Array Oper) (G : List Heap) (i : Nat) : List Heap := (fun x : Nat × Nat => (G.drop (x.1 + 1)).take (x.2 - x.1)) (flo P ops i)
theorem rd_ok {Hs : List Heap} (hs : (laterG P ops G i, Nat.blt (flo P ops i).2 G.length, (ops[i]?).isSome) = (Hs, true, true)) (hv : vSelf v = true) (h : AllR P ops i ts v Hs) : rdOk P ops (Region.before ops) G (i, ts, v) = true := by
  simp only [Prod.mk.injEq] at hs
  obtain ⟨hs, hlen, hsome⟩ := hs
  rw [Nat.blt_eq] at hlen
  obtain ⟨o, ho⟩ := Option.isSome_iff_exists.1 hsome
  unfold rdOk
  simp only [ho, List.all_eq_true, List.mem_range]
  intro c hc
  by_cases h1 : c ≤ (flo P ops i).1
  · have h1' := h1
    simp only [flo] at h1'
    simp [h1']
  · by_cases h2 : (flo P ops i).2 < c
    · have h2' := h2
      simp only [flo] at h2'
      simp [h2']
    · have hget : Hs[c - (flo P ops i).1 - 1]? = some (G.getD c noHeap) := by
        rw [← hs, laterG, List.getElem?_take, if_pos (by omega), List.getElem?_drop, show (flo P ops i).1 + 1 + (c - (flo P ops i).1 - 1) = c by omega, List.getD, List.getElem?_eq_getElem (by omega)]
        rfl
      obtain ⟨o', ho', _, _, hv'⟩ := (h.get hget).ex
      rw [ho] at ho'
      cases ho'
      simp only [hv', vEq_self hv, Bool.or_true]
end
end Go.X
