/- slices.Insert of cells, run in the model. -/
import Derived.Test.YtomibdncbioijaaXzCoreP
import Derived.Test.YtomibdncbioijaaProg
import Derived.Shelf.Spec.SlicesInsertGrow
set_option linter.unusedVariables false
set_option linter.unusedSimpArgs false
namespace Go.X
open Go Go.RowKit Go.Proofs Go.Lib
set_option maxHeartbeats 4000000 in
set_option maxRecDepth 100000 in
theorem ins_end {w w' : World} {v' : Value} (base : Option Addr) (n c : Nat) (A2 : Addr) (vc : Nat) (hnc : n ≤ c) (hnil : base = none → n = 0)
    (hap : (Builtin.append_ #[22, 22] 22 #[.slice base n c, .slice (some A2) 1 vc]).run Try.prog w = .ok v' w') :
    Calls Try.prog 43 #[.slice base n c, .int .i64 n, .slice (some A2) 1 vc] w fun e u => e = .returned v' ∧ u = w' := by
  go_enter Try.func43, Try.ntmps43
  go_wp2_with (at_builtin; refine Lib.wpList_append_run _ rfl _ _ _ _ rfl _ _ rfl rfl _ _ hap ?_)
  all_goals
    go_ret
    exact ⟨rfl, rfl⟩
set_option maxHeartbeats 4000000 in
set_option maxRecDepth 100000 in
theorem ins_grow (mixed : Try.prog.follows .mixedOrders = true) {w w1 w2 w3 : World} (B off n i nb G : Nat) (A2 : Addr) (vc : Nat) (hi : i < n) (hn : n ≤ 1000) (hG : n + 1 ≤ G) (hG2 : G ≤ 9223372036854775807)
    (hrz : (Builtin.append_ #[22, 3] 22 #[.slice (some ⟨B, off, none⟩) i n, .int .i64 ((n : Int) + 1 - (i : Int))]).run Try.prog w = .ok (.slice (some ⟨nb, 0, none⟩) (n + 1) G) w1)
    (hcA : (Builtin.copy_ #[22, 22] 3 #[.slice (some ⟨nb, i * 5, none⟩) (n + 1 - i) (G - i), .slice (some A2) 1 vc]).run Try.prog w1 = .ok (goInt 1) w2)
    (hcB : (Builtin.copy_ #[22, 22] 3 #[.slice (some ⟨nb, (i + 1) * 5, none⟩) (n + 1 - (i + 1)) (G - (i + 1)), .slice (some ⟨B, off + i * 5, none⟩) (n - i) (n - i)]).run Try.prog w2.drew = .ok (goInt ((n - i : Nat) : Int)) w3) :
    Calls Try.prog 43 #[.slice (some ⟨B, off, none⟩) n n, .int .i64 i, .slice (some A2) 1 vc] w fun e u => e = .returned (.slice (some ⟨nb, 0, none⟩) (n + 1) G) ∧ u = w3 := by

  have hz2 : ¬ ((i : Int) = (n : Int)) := by omega
  have hz3 : (n : Int) < (n : Int) + 1 := by omega
  have hw1 : IntKind.i64.wrap ((i : Int) + 1) = (i : Int) + 1 := by rw [IntKind.wrap_i64]; omega
  have hb1 : (0 : Int) ≤ (i : Int) + 1 := by omega
  have hin : i ≤ n := by omega
  have htn : ((i : Int) + 1).toNat = i + 1 := by omega
  have hb3 : (i : Int) ≤ (n : Int) := by omega
  have hGi : ¬ (G = i) := by omega
  have hGim : ¬ (G = i + 1) := by omega
  have hci : ¬ (n = i) := by omega
  go_enter Try.func43, Try.ntmps43
  go_wp2_with (first
    | (at_builtin; refine Lib.wpList_append_run _ rfl _ _ _ _ rfl _ _ rfl rfl _ _ hrz ?_)
    | (at_builtin; refine wpList_copy_runI _ rfl _ _ 22 22 rfl _ _ rfl rfl hcA ?_))
  go_region_law_o (refine step_copy_runI rfl _ _ 22 22 rfl (.slice (some ⟨nb, (i + 1) * 5, none⟩) (n + 1 - (i + 1)) (G - (i + 1))) (.slice (some ⟨B, off + i * 5, none⟩) (n - i) (n - i)) (by simp [Act.eval, Act.put]) (by simp [Act.eval, Act.put]) hcB ?_)
  go_wp2
  go_ret
  exact ⟨rfl, rfl⟩
set_option maxHeartbeats 4000000 in
set_option maxRecDepth 100000 in
theorem ins_room (mixed : Try.prog.follows .mixedOrders = true) {w w1 w2 : World} (B off n i c : Nat) (A2 : Addr) (vc : Nat) (hi : i < n) (hn : n ≤ 1000) (hroom : n + 1 ≤ c) (hc63 : c ≤ 9223372036854775807)
    (hov : ∀ lb cb, (callFunc 53 #[.slice (some A2) 1 vc, .slice (some ⟨B, off + (i + 1) * 5, none⟩) lb cb]).run Try.prog w = .ok (.value (.bool false)) w)
    (hc1 : (Builtin.copy_ #[22, 22] 3 #[.slice (some ⟨B, off + (i + 1) * 5, none⟩) (n + 1 - (i + 1)) (c - (i + 1)), .slice (some ⟨B, off + i * 5, none⟩) (n + 1 - i) (c - i)]).run Try.prog w.drew = .ok (goInt ((n - i : Nat) : Int)) w1)
    (hc2 : (Builtin.copy_ #[22, 22] 3 #[.slice (some ⟨B, off + i * 5, none⟩) (n + 1 - i) (c - i), .slice (some A2) 1 vc]).run Try.prog w1 = .ok (goInt 1) w2) :
    Calls Try.prog 43 #[.slice (some ⟨B, off, none⟩) n c, .int .i64 i, .slice (some A2) 1 vc] w fun e u => e = .returned (.slice (some ⟨B, off, none⟩) (n + 1) c) ∧ u = w2 := by
  have hz2 : ¬ ((i : Int) = (n : Int)) := by omega
  have hw1 : IntKind.i64.wrap ((i : Int) + 1) = (i : Int) + 1 := by rw [IntKind.wrap_i64]; omega
  have hb1 : (0 : Int) ≤ (i : Int) + 1 := by omega
  have hin : i ≤ n := by omega
  have htn : ((i : Int) + 1).toNat = i + 1 := by omega
  have hb2 : ¬ (c = i + 1) := by omega
  have hb3 : (i : Int) ≤ (n : Int) + 1 := by omega
  have hb4 : ¬ (c = i) := by omega
  go_enter Try.func43, Try.ntmps43
  go_wp2_with (simp only [hov])
  go_region_law_o (refine step_copy_runI rfl _ _ 22 22 rfl (.slice (some ⟨B, off + (i + 1) * 5, none⟩) (n + 1 - (i + 1)) (c - (i + 1))) (.slice (some ⟨B, off + i * 5, none⟩) (n + 1 - i) (c - i)) (by simp [Act.eval, Act.put]) (by simp [Act.eval, Act.put]) hc1 ?_)
  go_wp2_with (at_builtin; refine wpList_copy_runI _ rfl _ _ 22 22 rfl _ _ rfl rfl hc2 ?_)
  go_ret
  exact ⟨rfl, rfl⟩
end Go.X
