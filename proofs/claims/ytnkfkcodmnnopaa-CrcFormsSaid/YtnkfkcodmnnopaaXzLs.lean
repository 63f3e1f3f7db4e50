/- What the functions of the seals come to. -/
import Derived.Test.YtnkfkcodmnnopaaXzLa
import Derived.Laws.Strings
set_option linter.unusedVariables false
set_option linter.unusedSimpArgs false
namespace Go.X
open Go Go.RowKit Go.Proofs

def sealB (s : BitVec 32) (x : Int) : BitVec 32 := (s ^^^ BitVec.ofInt 32 x) * 16777619#32
def sealL (s : BitVec 32) (xs : List Int) : BitVec 32 := xs.foldl sealB s
def keyB (key : Int) (i : Nat) : Int := IntKind.wrap .u8 (ishr .u64 key (8 * (7 - (i : Int))))
def kb (key : Int) : List Int := (List.range 8).map (keyB key)
def tagB (key : Int) (xs : List Int) : BitVec 32 := sealL (sealL (sealL 2166136261#32 (kb key)) xs) (kb key)
theorem sealB_int (s : BitVec 32) (x : Int) : IntKind.wrap .u32 ((ixor .u32 (nb s) (IntKind.wrap .u32 x)) * 16777619) = nb (sealB s x) := by
  rw [wrap_nb (k := .u32) rfl x]
  have e : ixor .u32 (nb s) (nb (BitVec.ofInt IntKind.u32.bits x)) = nb (s ^^^ BitVec.ofInt 32 x) := ixor_nb (k := .u32) rfl s _
  rw [e]
  exact mul_nb (k := .u32) rfl (s ^^^ BitVec.ofInt 32 x) 16777619#32
theorem mul_inj {a b : BitVec 32} (h : a * 16777619#32 = b * 16777619#32) : a = b := by
  have h2 := congrArg (· * 899433627#32) h
  simp only [BitVec.mul_assoc] at h2
  rw [show (16777619#32 * 899433627#32 : BitVec 32) = 1#32 by decide, BitVec.mul_one, BitVec.mul_one] at h2
  exact h2
theorem xor_cancel {n : Nat} {a b c : BitVec n} (h : a ^^^ c = b ^^^ c) : a = b := by
  have := congrArg (· ^^^ c) h
  simpa [BitVec.xor_assoc] using this
theorem sealL_inj : ∀ (xs : List Int) {a b : BitVec 32}, sealL a xs = sealL b xs → a = b := by
  intro xs
  induction xs with
  | nil => intro a b h; exact h
  | cons x xs ih =>
    intro a b h
    exact xor_cancel (mul_inj (ih (show sealL (sealB a x) xs = sealL (sealB b x) xs from h)))
theorem sealL_append (s : BitVec 32) (xs ys : List Int) : sealL s (xs ++ ys) = sealL (sealL s xs) ys := List.foldl_append

structure Upd (H H' : Heap) (b : Nat) (o : AObj) : Prop where
  next : H'.next = H.next
  at_ : H'.get b = o
  off : ∀ i, i ≠ b → H'.get i = H.get i
theorem Upd.set (H : Heap) (b : Nat) (o : AObj) : Upd H (H.set b o) b o := ⟨rfl, by simp, fun i hi => Heap.get_set_ne _ _ _ _ hi⟩
theorem Upd.trans {H H1 H2 : Heap} {b : Nat} {o o' : AObj} (h : Upd H H1 b o) (k : Upd H1 H2 b o') : Upd H H2 b o' := ⟨k.next.trans h.next, k.at_, fun i hi => (k.off i hi).trans (h.off i hi)⟩
theorem Upd.keep {H H' : Heap} {b base : Nat} {o : AObj} (h : Upd H H' b o) (hb : base ≤ b) : Keep base H H' := ⟨by rw [h.next]; exact Nat.le_refl _, fun i hi => h.off i (by omega)⟩
theorem ldc_row {H : Heap} {b : Nat} {v : Value} {own : Bool} (h : H.get b = .row [v] own) : ldc H b 0 = some v := by unfold ldc; rw [h]; rfl
theorem stc_row {H : Heap} {b : Nat} {v w : Value} (h : H.get b = .row [v] true) : stc H b 0 [w] = some (H.set b (.row [w] true)) := by unfold stc; rw [h]; rfl
theorem goes22 : fnGoes Try.prog 22 = true := by kernel_rfl

namespace F22
theorem ok {H : Heap} {b : Nat} {s : BitVec 32} (x : Int) (h : H.get b = .row [.int .u32 (nb s)] true) : C 22 [.int .u8 x, .pointer (some ⟨b, 0, none⟩)] H = some (.tuple #[], H.set b (.row [.int .u32 (nb (sealB s x))] true)) := by
  refine call ⟨b, 0, rfl, _, ldc_row h, _, stc_row h, ?_⟩
  rw [sealB_int]
end F22

namespace F23
theorem l0 {bt bk bs : Nat} {key : Int} (h1 : bs ≠ bt) (h2 : bs ≠ bk) : ∀ (m i : Nat) (s : BitVec 32) (H : Heap), i + m = 8 → H.get bt = .row [.func (.func 22) #[] #[.pointer (some ⟨bs, 0, none⟩)]] true → H.get bk = .row [.int .u64 key] true → H.get bs = .row [.int .u32 (nb s)] true →
    ∃ H', L0 (some ⟨bt, 0, none⟩) (some ⟨bk, 0, none⟩) (i : Int) H (.tuple #[], H') ∧ Upd H H' bs (.row [.int .u32 (nb (sealL s ((List.range' i m).map (keyB key))))] true) := by
  intro m
  induction m with
  | zero =>
    intro i s H hi g1 g2 g3
    refine ⟨H, L0_step ?_, ⟨rfl, g3, fun _ _ => rfl⟩⟩
    rw [if_neg (by omega)]
  | succ m ih =>
    intro i s H hi g1 g2 g3
    have u := Upd.set H bs (.row [.int .u32 (nb (sealB s (keyB key i)))] true)
    obtain ⟨H', k1, k2⟩ := ih (i + 1) (sealB s (keyB key i)) (H.set bs (.row [.int .u32 (nb (sealB s (keyB key i)))] true)) (by omega) (by rw [u.off _ h1.symm]; exact g1) (by rw [u.off _ h2.symm]; exact g2) u.at_
    refine ⟨H', L0_step ?_, ?_⟩
    · rw [if_pos (by omega)]
      have e : IntKind.wrap .i64 (8 * (IntKind.wrap .i64 (7 - (i : Int)))) = 8 * (7 - (i : Int)) := by rw [i64 (n := 7 - (i : Int)) (by omega) (by omega), i64 (by omega) (by omega)]
      rw [e]
      refine ⟨bt, 0, rfl, _, ldc_row g1, bk, 0, rfl, _, ldc_row g2, by omega, _, _, _, rfl, goes22, _, F22.ok _ g3, ?_⟩
      rw [i64 (by omega) (by omega)]
      exact_mod_cast k1
    · rw [List.range'_succ, List.map_cons]
      exact u.trans k2
theorem ok {bt bk bs : Nat} {key : Int} {s : BitVec 32} {H : Heap} (h1 : bs ≠ bt) (h2 : bs ≠ bk) (g1 : H.get bt = .row [.func (.func 22) #[] #[.pointer (some ⟨bs, 0, none⟩)]] true) (g2 : H.get bk = .row [.int .u64 key] true) (g3 : H.get bs = .row [.int .u32 (nb s)] true) :
    ∃ H', C 23 [.pointer (some ⟨bt, 0, none⟩), .pointer (some ⟨bk, 0, none⟩)] H = some (.tuple #[], H') ∧ Upd H H' bs (.row [.int .u32 (nb (sealL s (kb key)))] true) := by
  obtain ⟨H', k1, k2⟩ := l0 h1 h2 8 0 s H rfl g1 g2 g3
  refine ⟨H', call k1, ?_⟩
  rw [kb, List.range_eq_range']
  exact k2
end F23

namespace F14
theorem l0 {bt bk bs : Nat} {key : Int} (h1 : bs ≠ bt) (h2 : bs ≠ bk) {a : Option Addr} {n k : Nat} {xs : List Int} (hn : n < 4611686018427387904) {G : Heap} (hs : Bytes G a n k xs) (hb : G.next ≤ bs) : ∀ (rest : List Int) (j : Nat) (s : BitVec 32) (H : Heap), xs.drop j = rest → j + rest.length = n → Keep G.next G H →
    H.get bt = .row [.func (.func 22) #[] #[.pointer (some ⟨bs, 0, none⟩)]] true → H.get bk = .row [.int .u64 key] true → H.get bs = .row [.int .u32 (nb s)] true →
    ∃ H', L0 bs 0 bt 0 bt 0 bk 0 a n k (n : Int) (j : Int) H (.int .u32 (nb (sealL (sealL s rest) (kb key))), H') ∧ Keep G.next H H' := by
  intro rest
  induction rest with
  | nil =>
    intro j s H hd hj hp g1 g2 g3
    simp only [List.length_nil] at hj
    obtain ⟨H', k1, k2⟩ := F23.ok h1 h2 g1 g2 g3
    refine ⟨H', L0_step ?_, k2.keep hb⟩
    rw [if_neg (by omega)]
    exact ⟨_, k1, _, ldc_row k2.at_, rfl⟩
  | cons x rest ih =>
    intro j s H hd hj hp g1 g2 g3
    simp only [List.length_cons] at hj
    obtain ⟨b, o, rfl⟩ := hs.at (by omega)
    have hx : xs[j]? = some x := by have := congrArg (·[0]?) hd; simpa using this
    have u := Upd.set H bs (.row [.int .u32 (nb (sealB s x))] true)
    obtain ⟨H', k1, k2⟩ := ih (j + 1) (sealB s x) (H.set bs (.row [.int .u32 (nb (sealB s x))] true)) (by rw [← List.drop_drop, hd]; rfl) (by omega) (hp.trans (u.keep hb)) (by rw [u.off _ h1.symm]; exact g1) (by rw [u.off _ h2.symm]; exact g2) u.at_
    refine ⟨H', L0_step ?_, (u.keep hb).trans k2⟩
    rw [if_pos (by omega)]
    refine ⟨b, o, rfl, by omega, by omega, x, by rw [Int.toNat_natCast]; exact Bytes.get (hs.keep hp) hx, _, ldc_row g1, _, _, _, rfl, goes22, _, F22.ok _ g3, ?_⟩
    rw [i64 (by omega) (by omega)]
    exact_mod_cast k1
theorem ok (key : Int) {a : Option Addr} {n k : Nat} {xs : List Int} {H : Heap} (hs : Bytes H a n k xs) (hn : n < 4611686018427387904) : ∃ H', C 14 [.int .u64 key, .slice a n k] H = some (.int .u32 (nb (tagB key xs)), H') ∧ Keep H.next H H' := by
  generalize e1 : H.push (.row [.int .u64 key] true) = H1
  have p1 : Keep H.next H H1 := by rw [← e1]; exact Keep.push _ (Nat.le_refl _)
  have n1 : H1.next = H.next + 1 := by rw [← e1]; rfl
  have a1 : H1.get H.next = .row [.int .u64 key] true := by rw [← e1]; simp
  generalize e2 : H1.push (.row [.int .u32 0] true) = H2
  have p2 : Keep H1.next H1 H2 := by rw [← e2]; exact Keep.push _ (Nat.le_refl _)
  have n2 : H2.next = H1.next + 1 := by rw [← e2]; rfl
  have a2 : H2.get H1.next = .row [.int .u32 0] true := by rw [← e2]; simp
  have u3 := Upd.set H2 H1.next (.row [.int .u32 (nb 2166136261#32)] true)
  generalize e3 : H2.set H1.next (.row [.int .u32 (nb 2166136261#32)] true) = H3 at u3
  generalize e4 : H3.push (.row [.nilFunc] true) = H4
  have p4 : Keep H3.next H3 H4 := by rw [← e4]; exact Keep.push _ (Nat.le_refl _)
  have a4 : H4.get H3.next = .row [.nilFunc] true := by rw [← e4]; simp
  have u5 := Upd.set H4 H3.next (.row [.func (.func 22) #[] #[.pointer (some ⟨H1.next, 0, none⟩)]] true)
  generalize e5 : H4.set H3.next (.row [.func (.func 22) #[] #[.pointer (some ⟨H1.next, 0, none⟩)]] true) = H5 at u5
  have n3 : H3.next = H.next + 2 := by rw [u3.next, n2, n1]
  have b2 : H5.get H.next = .row [.int .u64 key] true := by rw [u5.off _ (by omega), p4.get _ (by omega), u3.off _ (by omega), p2.get _ (by omega), a1]
  have b3 : H5.get H1.next = .row [.int .u32 (nb 2166136261#32)] true := by rw [u5.off _ (by omega), p4.get _ (by omega), u3.at_]
  obtain ⟨H6, c6, u6⟩ := F23.ok (bs := H1.next) (bt := H3.next) (bk := H.next) (by omega) (by omega) u5.at_ b2 b3
  have q5 : Keep H.next H H5 := p1.trans ((p2.weak (by omega)).trans ((u3.keep (by omega)).trans ((p4.weak (by omega)).trans (u5.keep (by omega)))))
  have q6 := q5.trans (u6.keep (base := H.next) (by omega))
  obtain ⟨H7, c7, k7⟩ := l0 (bs := H1.next) (bt := H3.next) (bk := H.next) (key := key) (by omega) (by omega) hn hs (by omega) xs 0 _ H6 (by simp) (by have := hs.n; omega) q6 (by rw [u6.off _ (by omega)]; exact u5.at_) (by rw [u6.off _ (by omega)]; exact b2) u6.at_
  refine ⟨H7, call ⟨_, e1.symm, _, e2.symm, H3, ?_, _, e4.symm, H5, ?_, _, c6, c7⟩, q6.trans k7⟩
  · rw [stc_row a2]; exact congrArg some e3
  · rw [stc_row a4]; exact congrArg some e5
end F14
namespace F16
theorem ok (key : Int) {a : Option Addr} {n k : Nat} {xs : List Int} {H : Heap} (t : Int) (hs : Bytes H a n k xs) (hn : n < 4611686018427387904) : ∃ H', C 16 [.int .u64 key, .slice a n k, .int .u32 t] H = some (.bool (nb (tagB key xs) == t), H') ∧ Keep H.next H H' := by
  obtain ⟨H', c, p⟩ := F14.ok key hs hn
  exact ⟨H', call ⟨_, _, c, rfl⟩, p⟩
end F16
namespace F13
theorem ok (H : Heap) : ∃ H', C 13 [] H = some (.bool true, H') ∧ Keep H.next H H' := by
  have o : ∀ (H : Heap) (xs : List Int), Own H.next (H.push (.row (xs.map (Value.int .u8)) true)) 1 (some ⟨H.next, 0, none⟩) xs.length (UNK 1) (xs.map (Value.int .u8)) := fun H xs => Own.new (by simp)
  have p : ∀ (H : Heap) (xs : List Int), Keep H.next H (H.push (.row (xs.map (Value.int .u8)) true)) := fun H xs => Keep.push _ (Nat.le_refl _)
  have t : ∀ {b H0 H1 H2 : Heap}, Keep b.next b H0 → Keep H0.next H0 H1 → Keep H1.next H1 H2 → Keep b.next b H2 := fun h k l => (h.trans (k.weak h.next)).trans (l.weak (h.trans (k.weak h.next)).next)
  obtain ⟨H2, c2, k2⟩ := F14.ok 5 (xs := [97, 98]) (o H [97, 98]).sl (by decide)
  obtain ⟨H4, c4, k4⟩ := F14.ok 5 (xs := [97, 99]) (o H2 [97, 99]).sl (by decide)
  obtain ⟨H6, c6, k6⟩ := F16.ok 5 (xs := [97, 98]) (nb (tagB 5 [97, 98])) (o H4 [97, 98]).sl (by decide)
  obtain ⟨H8, c8, k8⟩ := F16.ok 5 (xs := [97, 98]) (nb (tagB 5 [97, 99])) (o H6 [97, 98]).sl (by decide)
  have hne : ¬ nb (tagB 5 [97, 98]) = nb (tagB 5 [97, 99]) := by decide +kernel
  refine ⟨H8, call ⟨_, rfl, (o H [97, 98]).mark, _, _, c2, _, rfl, (o H2 [97, 99]).mark, _, _, c4, ?_⟩, t (t (t (t (Keep.refl _ H) (p H _) k2) (p H2 _) k4) (p H4 _) k6) (p H6 _) k8⟩
  rw [if_neg hne]
  refine ⟨_, rfl, (o H4 [97, 98]).mark, _, _, c6, ?_⟩
  rw [if_pos (by simp)]
  refine ⟨_, rfl, (o H6 [97, 98]).mark, _, _, c8, ?_⟩
  rw [show (nb (tagB 5 [97, 98]) == nb (tagB 5 [97, 99])) = false from beq_eq_false_iff_ne.2 hne]
  rfl
end F13

namespace F24
theorem l0 (key : Int) {base : Nat} : ∀ (m j : Nat) (H : Heap) (a : Option Addr) (k : Nat), j + m = 8 → base ≤ H.next → Own base H 1 a j k (((List.range j).map (keyB key)).map (Value.int .u8)) →
    ∃ a' k' H', L0 key a j k ((m : Int) - 1) H (.slice a' 8 k', H') ∧ Own base H' 1 a' 8 k' ((kb key).map (Value.int .u8)) ∧ Keep base H H' := by
  intro m
  induction m with
  | zero =>
    intro j H a k hj hb ho
    have : j = 8 := by omega
    subst this
    refine ⟨a, k, H, L0_step ?_, ho, Keep.refl _ _⟩
    rw [if_neg (by omega)]
  | succ m ih =>
    intro j H a k hj hb ho
    have q := Keep.push (H := H) (.row [.int .u8 (keyB key j)] true) (Nat.le_refl H.next)
    have on := (Own.new (H := H) (z := 1) (n := 1) (vs := [.int .u8 (keyB key j)]) rfl).sl
    obtain ⟨a1, k1, H1, d1, o1, p1⟩ := (ho.keep q).append (by_ := 1) on (by decide) (Nat.le_trans hb q.next) (by omega) (by omega)
    have o1 : Own base H1 1 a1 (j + 1) k1 (((List.range (j + 1)).map (keyB key)).map (Value.int .u8)) := by
      rw [List.range_succ]; simpa using o1
    obtain ⟨a2, k2, H2, c2, o2, p2⟩ := ih (j + 1) H1 a1 k1 (by omega) (Nat.le_trans hb (Nat.le_trans q.next p1.next)) o1
    refine ⟨a2, k2, H2, L0_step ?_, o2, (q.weak hb).trans (p1.trans p2)⟩
    have e : IntKind.wrap .u64 (IntKind.wrap .i64 (8 * (((m + 1 : Nat) : Int) - 1))) = 8 * (7 - (j : Int)) := by
      rw [i64 (by omega) (by omega), IntWalk.u64_in _ (by omega)]; omega
    rw [if_pos (by omega), e, i64 (by omega) (by omega)]
    refine ⟨by omega, _, rfl, _, _, _, _, d1, ?_⟩
    rw [show ((m + 1 : Nat) : Int) - 1 - 1 = (m : Int) - 1 by omega]
    exact c2
theorem ok (key : Int) (H : Heap) : ∃ a' k' H', C 24 [.int .u64 key, .int .i64 8] H = some (.slice a' 8 k', H') ∧ Own H.next H' 1 a' 8 k' ((kb key).map (Value.int .u8)) ∧ Keep H.next H H' := by
  obtain ⟨a', k', H', c, o, p⟩ := l0 key 8 0 H none 0 rfl (Nat.le_refl _) ⟨rfl, .inl ⟨rfl, rfl, rfl⟩⟩
  exact ⟨a', k', H', call c, o, p⟩
end F24
namespace F15
variable {c0 c1 c2 : Option Addr} {m0 m1 m2 j0 j1 j2 : Nat} {r : Value × Heap}
theorem l1 {a : Option Addr} {n k : Nat} {xs : List Int} {H : Heap} (hn : n < 4611686018427387904) (hs : Bytes H a n k xs) (t : Int) : ∀ (rest : List Int) (j : Nat) (s : BitVec 32), xs.drop j = rest → j + rest.length = n →
    L0 (nb (sealL s rest)) c0 m0 j0 c1 m1 j1 c2 m2 j2 (IntKind.wrap .i64 (t + 1)) H r → L1 (nb s) c0 m0 j0 c1 m1 j1 c2 m2 j2 t a n k (n : Int) (j : Int) H r := by
  intro rest
  induction rest with
  | nil =>
    intro j s hd hj h
    simp only [List.length_nil] at hj
    refine L1_step ?_
    rw [if_neg (by omega)]
    exact h
  | cons x rest ih =>
    intro j s hd hj h
    simp only [List.length_cons] at hj
    obtain ⟨b, o, rfl⟩ := hs.at (by omega)
    have hx : xs[j]? = some x := by have := congrArg (·[0]?) hd; simpa using this
    refine L1_step ?_
    rw [if_pos (by omega)]
    refine ⟨b, o, rfl, by omega, by omega, x, by rw [Int.toNat_natCast]; exact Bytes.get hs hx, ?_⟩
    rw [sealB_int, i64 (by omega) (by omega)]
    have := ih (j + 1) (sealB s x) (by rw [← List.drop_drop, hd]; rfl) (by omega) h
    exact_mod_cast this
theorem ok (key : Int) {a : Option Addr} {n k : Nat} {xs : List Int} {H : Heap} (hs : Bytes H a n k xs) (hn : n < 4611686018427387904) : ∃ H', C 15 [.int .u64 key, .slice a n k] H = some (.int .u32 (nb (tagB key xs)), H') ∧ Keep H.next H H' := by
  obtain ⟨a1, k1, H1, c1, o1, p1⟩ := F24.ok key H
  have hk := o1.sl
  have hb := hs.keep p1
  refine ⟨H1, call ⟨_, _, _, _, c1, ?_⟩, p1⟩
  have z8 : (kb key).length = 8 := by simp [kb]
  refine L0_step ?_
  rw [if_pos (by decide)]
  refine ⟨_, _, _, rfl, ?_⟩
  refine l1 (xs := kb key) (by decide) hk 0 (kb key) 0 2166136261#32 (by simp) (by omega) ?_
  refine L0_step ?_
  rw [if_pos (by decide)]
  refine ⟨_, _, _, rfl, ?_⟩
  refine l1 (xs := xs) hn hb 1 xs 0 _ (by simp) (by have := hs.n; omega) ?_
  refine L0_step ?_
  rw [if_pos (by decide)]
  refine ⟨_, _, _, rfl, ?_⟩
  refine l1 (xs := kb key) (by decide) hk 2 (kb key) 0 _ (by simp) (by omega) ?_
  refine L0_step ?_
  rw [if_neg (by decide)]
  rfl
end F15

namespace F4
theorem ok (key tag : Int) {a : Option Addr} {n k : Nat} {xs : List Int} {H : Heap} (hs : Bytes H a n k xs) : ∃ H', C 4 [.int .u64 key, .slice a n k, .int .u32 tag] H = some (.bool true, H') := by
  by_cases hn : (n : Int) > 2000
  · obtain ⟨H', c, _⟩ := F13.ok H
    exact ⟨H', call (by rw [if_pos hn]; exact ⟨_, _, c, rfl⟩)⟩
  · obtain ⟨H1, c1, p1⟩ := F14.ok key hs (by omega)
    have s1 := hs.keep p1
    obtain ⟨H2, c2, p2⟩ := F15.ok key s1 (by omega)
    have s2 := s1.keep p2
    obtain ⟨H3, c3, p3⟩ := F16.ok key tag s2 (by omega)
    have s3 := s2.keep p3
    obtain ⟨H4, c4, p4⟩ := F15.ok key s3 (by omega)
    obtain ⟨H5, c5, _⟩ := F13.ok H4
    refine ⟨H5, call ?_⟩
    rw [if_neg hn]
    refine ⟨_, _, c1, _, _, c2, ?_⟩
    rw [if_pos rfl]
    refine ⟨_, _, c3, _, _, c4, ?_⟩
    rw [if_pos (by rw [BEq.comm (a := tag)]; simp)]
    exact ⟨_, _, c5, rfl⟩
end F4
theorem sealB_xor {s t : BitVec 32} {x y : Int} (hx : 0 ≤ x ∧ x < 256) (hy : 0 ≤ y ∧ y < 256) (h : sealB s (ixor .u8 x y) = sealB s x) : y = 0 := by
  have h1 := mul_inj h
  rw [BitVec.xor_comm s, BitVec.xor_comm s] at h1
  have h2 := xor_cancel h1
  have r := ixor8_range x y
  have e : ixor .u8 x y = x := by
    have := congrArg nb h2
    rwa [nb_ofInt r.1 (by have := r.2; omega), nb_ofInt hx.1 (by omega)] at this
  rw [ixor8_eq hx hy] at e
  rw [byte_nb hx.1 hx.2] at e
  rw [byte_nb hy.1 hy.2]
  have e2 := nb_inj e
  rw [ofInt_nb] at e2
  have : BitVec.ofInt 8 y = 0#8 := by
    have := congrArg (BitVec.ofInt 8 x ^^^ ·) e2
    simpa [← BitVec.xor_assoc] using this
  rw [this]; rfl
theorem sealL_set {xs : List Int} {p : Nat} {y : Int} (hp : p < xs.length) (hx : IsB xs) (hy : 0 ≤ y ∧ y < 256) {s : BitVec 32} (h : sealL s (xs.set p (ixor .u8 xs[p] y)) = sealL s xs) : y = 0 := by
  induction xs generalizing p s with
  | nil => simp at hp
  | cons x xs ih =>
    cases p with
    | zero =>
      have := sealL_inj xs (show sealL (sealB s (ixor .u8 x y)) xs = sealL (sealB s x) xs from h)
      exact sealB_xor (t := s) (hx x (by simp)) hy this
    | succ p =>
      have hp' : p < xs.length := by simpa using hp
      exact ih (p := p) hp' (fun z hz => hx z (by simp [hz])) (show sealL (sealB s x) (xs.set p (ixor .u8 xs[p] y)) = sealL (sealB s x) xs from h)
theorem tag_set (key : Int) {xs : List Int} {p : Nat} {y : Int} (hp : p < xs.length) (hx : IsB xs) (hy : 0 ≤ y ∧ y < 256) : (nb (tagB key (xs.set p (ixor .u8 xs[p] y))) == nb (tagB key xs)) = (y == 0) := by
  by_cases h0 : y = 0
  · subst h0
    have e : ixor .u8 xs[p] 0 = xs[p] := by
      have hb := hx xs[p] (List.getElem_mem hp)
      rw [ixor8_eq hb (by omega)]
      have : BitVec.ofInt 8 0 = 0#8 := rfl
      rw [this, BitVec.xor_zero]
      exact (byte_nb hb.1 hb.2).symm
    rw [e, List.set_getElem_self]
    simp
  · have : ¬ nb (tagB key (xs.set p (ixor .u8 xs[p] y))) = nb (tagB key xs) := fun h => h0 (sealL_set hp hx hy (sealL_inj _ (nb_inj h)))
    rw [beq_eq_false_iff_ne.2 this, beq_eq_false_iff_ne.2 h0]
namespace F5
theorem l0T {t0 : Int} {a : Option Addr} {n k : Nat} {t2 t3 : Int} (H : Heap) : ∃ H', L0 t0 a n k t2 t3 true H (.bool true, H') := by
  obtain ⟨H', c, _⟩ := F13.ok H
  exact ⟨H', L0_step (by rw [if_pos rfl]; exact ⟨_, _, c, rfl⟩)⟩
theorem l0F (key : Int) {a : Option Addr} {n k : Nat} {xs : List Int} {H : Heap} (t2 : Int) {t3 : Int} (hs : Bytes H a n k xs) (hb : IsB xs) (hn : n ≤ 2000) (h0 : 0 < n) (h3 : 0 ≤ t3 ∧ t3 < 256) : ∃ H', L0 key a n k t2 t3 false H (.bool true, H') := by
  have p1 := Keep.push (H := H) (.row [] true) (Nat.le_refl H.next)
  obtain ⟨a2, k2, H2, d2, o2, p2⟩ := (Own.new (H := H) (z := 1) (n := 0) (vs := []) rfl).append (by_ := 1) (hs.keep p1) (by decide) (by simp) (by omega) (by omega)
  rw [Nat.zero_add] at d2 o2
  rw [List.nil_append] at o2
  have hx := hs.n
  have u : IntKind.wrap .u64 ((n : Nat) : Int) = (n : Int) := IntWalk.u64_in _ (by omega)
  obtain ⟨p, hp, hpn⟩ : ∃ p : Nat, IntKind.wrap .i64 (Int.tmod (IntKind.wrap .u64 t2) (n : Int)) = (p : Int) ∧ p < n := by
    have g0 : 0 ≤ IntKind.wrap .u64 t2 := by rw [wrap_nb (k := .u64) rfl]; exact Int.natCast_nonneg _
    have g1 : 0 ≤ Int.tmod (IntKind.wrap .u64 t2) (n : Int) := Int.tmod_nonneg _ g0
    have g2 : Int.tmod (IntKind.wrap .u64 t2) (n : Int) < (n : Int) := Int.tmod_lt_of_pos _ (by omega)
    refine ⟨(Int.tmod (IntKind.wrap .u64 t2) (n : Int)).toNat, ?_, by omega⟩
    rw [i64 (by omega) (by omega), Int.toNat_of_nonneg g1]
  obtain ⟨b, o, rfl⟩ := o2.sl.at h0
  have e1 : xs[p]? = some xs[p] := List.getElem?_eq_getElem (by omega)
  obtain ⟨H3, s3, o3, p3, _⟩ := o2.put (i := p) (by omega) (.int .u8 (ixor .u8 xs[p] t3))
  rw [← List.map_set] at o3
  have q3 := (p1.trans p2).trans p3
  have hs3 := hs.keep q3
  obtain ⟨H4, c4, p4⟩ := F14.ok key hs3 (by omega)
  have o4 := o3.keep p4
  obtain ⟨H5, c5, p5⟩ := F14.ok key o4.sl (by omega)
  obtain ⟨H6, c6, p6⟩ := F16.ok key (nb (tagB key xs)) ((hs3.keep p4).keep p5) (by omega)
  obtain ⟨H7, c7, _⟩ := F13.ok H6
  refine ⟨H7, L0_step ?_⟩
  rw [if_neg (by decide)]
  refine ⟨_, rfl, _, _, _, _, d2, ?_⟩
  rw [u, hp]
  refine ⟨by omega, b, o, rfl, by omega, by omega, _, by rw [Int.toNat_natCast]; exact Bytes.get o2.sl e1, by omega, by omega, _, by rw [Int.toNat_natCast]; exact s3, _, _, c4, _, _, c5, ?_⟩
  rw [if_pos (by rw [tag_set key (by omega) hb h3]; simp)]
  refine ⟨_, _, c6, ?_⟩
  rw [if_pos (by simp)]
  exact ⟨_, _, c7, rfl⟩
theorem ok (key : Int) {a : Option Addr} {n k : Nat} {xs : List Int} {H : Heap} (t2 : Int) {t3 : Int} (hs : Bytes H a n k xs) (hb : IsB xs) (h3 : 0 ≤ t3 ∧ t3 < 256) : ∃ H', C 5 [.int .u64 key, .slice a n k, .int .i64 t2, .int .u8 t3] H = some (.bool true, H') := by
  by_cases h0 : (n : Int) = 0
  · obtain ⟨H', h⟩ := l0T (t0 := key) (a := a) (n := n) (k := k) (t2 := t2) (t3 := t3) H
    exact ⟨H', call (by rw [if_pos h0]; exact h)⟩
  · by_cases hn : (n : Int) > 2000
    · obtain ⟨H', h⟩ := l0T (t0 := key) (a := a) (n := n) (k := k) (t2 := t2) (t3 := t3) H
      exact ⟨H', call (by rw [if_neg h0, decide_eq_true hn]; exact h)⟩
    · obtain ⟨H', h⟩ := l0F key t2 hs hb (by omega) (by omega) h3
      exact ⟨H', call (by rw [if_neg h0, decide_eq_false hn]; exact h)⟩
end F5

theorem str_inj {xs ys : List Int} (hx : IsB xs) (hy : IsB ys) (h : (strOfNums xs).toList = (strOfNums ys).toList) : xs = ys := by
  rw [ByteArray.toList_eq, ByteArray.toList_eq, strOfNums_data, strOfNums_data] at h
  induction xs generalizing ys with
  | nil => cases ys with
    | nil => rfl
    | cons y ys => simp at h
  | cons x xs ih =>
    cases ys with
    | nil => simp at h
    | cons y ys =>
      simp only [List.map_cons, List.cons.injEq] at h
      have bx := hx x (by simp)
      have bY := hy y (by simp)
      have e := congrArg UInt8.toNat h.1
      simp only [UInt8.toNat_ofNat'] at e
      rw [ih (fun z hz => hx z (by simp [hz])) (fun z hz => hy z (by simp [hz])) h.2]
      have : x = y := by
        simp only [Nat.reducePow] at e
        omega
      rw [this]
namespace F6
theorem l0T {t0 : Int} {a a1 : Option Addr} {n k n1 k1 : Nat} (H : Heap) : ∃ H', L0 t0 a n k a1 n1 k1 true H (.bool true, H') := by
  obtain ⟨H', c, _⟩ := F13.ok H
  exact ⟨H', L0_step (by rw [if_pos rfl]; exact ⟨_, _, c, rfl⟩)⟩
theorem l0F (key : Int) {a a1 : Option Addr} {n k n1 k1 : Nat} {xs ys : List Int} {H : Heap} (hs : Bytes H a n k xs) (ht : Bytes H a1 n1 k1 ys) (hx : IsB xs) (hy : IsB ys) (hn : n ≤ 500) (hn1 : n1 ≤ 500) : ∃ H', L0 key a n k a1 n1 k1 false H (.bool true, H') := by
  obtain ⟨H2, c2, p2⟩ := F14.ok key hs (by omega)
  have t2 := ht.keep p2
  obtain ⟨H3, c3, p3⟩ := F14.ok key t2 (by omega)
  have s3 := (hs.keep p2).keep p3
  obtain ⟨H4, c4, p4⟩ := F16.ok key (nb (tagB key xs)) s3 (by omega)
  have s4 := s3.keep p4
  obtain ⟨H5, c5, p5⟩ := F16.ok key (nb (tagB key ys)) s4 (by omega)
  obtain ⟨H6, c6, p6⟩ := F14.ok (H := H5) key (a := none) (n := 0) (k := 0) (xs := []) ⟨rfl, .inl ⟨rfl, rfl, rfl⟩⟩ (by decide)
  have o7 := (Own.new (H := H6) (z := 1) (n := 0) (vs := []) rfl).sl
  obtain ⟨H8, c8, p8⟩ := F14.ok (xs := []) key o7 (by decide)
  obtain ⟨H9, c9, _⟩ := F13.ok H8
  refine ⟨H9, L0_step ?_⟩
  rw [if_neg (by decide)]
  refine ⟨_, _, c2, _, _, c3, ?_⟩
  by_cases h : nb (tagB key xs) = nb (tagB key ys)
  · rw [if_pos h]
    refine ⟨_, _, c4, ?_⟩
    rw [if_pos (by simp)]
    refine ⟨_, _, c5, ?_⟩
    rw [if_pos (by simp)]
    refine ⟨_, _, c6, _, rfl, _, _, c8, ?_⟩
    rw [if_pos rfl]
    exact ⟨_, _, c9, rfl⟩
  · rw [if_neg h]
    refine ⟨_, Sl.str s3, _, Sl.str (t2.keep p3), ?_⟩
    rw [if_neg (fun e => h (by rw [str_inj hx hy e]))]
    refine ⟨_, _, c4, ?_⟩
    rw [if_pos (by simp)]
    refine ⟨_, _, c5, ?_⟩
    rw [if_pos (by simp)]
    refine ⟨_, _, c6, _, rfl, _, _, c8, ?_⟩
    rw [if_pos rfl]
    exact ⟨_, _, c9, rfl⟩
theorem ok (key : Int) {a a1 : Option Addr} {n k n1 k1 : Nat} {xs ys : List Int} {H : Heap} (hs : Bytes H a n k xs) (ht : Bytes H a1 n1 k1 ys) (hx : IsB xs) (hy : IsB ys) : ∃ H', C 6 [.int .u64 key, .slice a n k, .slice a1 n1 k1] H = some (.bool true, H') := by
  by_cases h0 : (n : Int) > 500
  · obtain ⟨H', h⟩ := l0T (t0 := key) (a := a) (n := n) (k := k) (a1 := a1) (n1 := n1) (k1 := k1) H
    exact ⟨H', call (by rw [if_pos h0]; exact h)⟩
  · by_cases h1 : (n1 : Int) > 500
    · obtain ⟨H', h⟩ := l0T (t0 := key) (a := a) (n := n) (k := k) (a1 := a1) (n1 := n1) (k1 := k1) H
      exact ⟨H', call (by rw [if_neg h0, decide_eq_true h1]; exact h)⟩
    · obtain ⟨H', h⟩ := l0F key hs ht hx hy (by omega) (by omega)
      exact ⟨H', call (by rw [if_neg h0, decide_eq_false h1]; exact h)⟩
end F6
end Go.X
