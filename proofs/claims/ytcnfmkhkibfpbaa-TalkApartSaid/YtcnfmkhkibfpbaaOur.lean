/- The program's message out of the document's: the walk of Ours. The flags of a kind: the walk of fields. -/
import Derived.Test.YtcnfmkhkibfpbaaMsg
namespace Go.Proofs.Ytcnfmkhkibfpbaa
open Go Go.RowKit
set_option linter.unusedVariables false
set_option maxRecDepth 100000 in
set_option maxHeartbeats 4000000 in
theorem ours_t (m : MsgS) (w : World) : Calls Try.prog 23 #[.agg (msgV m)] w fun e w' => e = .returned (.agg (msgV m)) ∧ New w w' := by
  obtain ⟨k, x, mc, i, t, s, n, g, y⟩ := m
  unfold msgV
  dsimp only
  have c : ∀ o o', New w ((w.alloc o).alloc o') := fun o o' => ((Chg.refl _ w).alloc o).alloc o'
  go_enter Try.func23, Try.ntmps23
  go_wp2_with fail
  refine bodyPost_ret (results_cell_row rfl _ _ (w.heap.size + 1) 49 #[.int .i64 k, .int .u32 x, .int .u64 mc, .int .u32 i, .int .i64 t, .string s, .int .u64 n, .int .u64 g, .int .i64 y] (0, 0) _ rfl (heap_alloc2_new w _ _) Try.underlying49 rfl (by kernel_rfl)) rfl ⟨rfl, c _ _⟩
/-- Which fields a kind has, in the program's order. -/
def flagsV (k : Int) : Array Value := #[.bool (hasB k 120), .bool (hasB k 109), .bool (hasB k 105), .bool (hasB k 116), .bool (hasB k 117), .bool (hasB k 110), .bool (hasB k 103), .bool (hasB k 119)]
set_option maxRecDepth 100000 in
set_option maxHeartbeats 8000000 in
theorem fields_t (k : Int) (h1 : 1 ≤ k) (h12 : k ≤ 12) (w : World) : Calls Try.prog 35 #[.int .i64 k] w fun e w' => e = .returned (.agg (flagsV k)) ∧ New w w' := by
  have c : ∀ o o', New w ((w.alloc o).alloc o') := fun o o' => ((Chg.refl _ w).alloc o).alloc o'
  rcases (by omega : k = 1 ∨ k = 2 ∨ k = 3 ∨ k = 4 ∨ k = 5 ∨ k = 6 ∨ k = 7 ∨ k = 8 ∨ k = 9 ∨ k = 10 ∨ k = 11 ∨ k = 12) with rfl | rfl | rfl | rfl | rfl | rfl | rfl | rfl | rfl | rfl | rfl | rfl
  all_goals
    go_enter Try.func35, Try.ntmps35
    go_wp2
    exact bodyPost_ret (results_cell_row rfl _ _ w.heap.size 69 (flagsV _) (0, 0) _ rfl (heap_alloc12 w _ _) Try.underlying69 rfl (by kernel_rfl)) rfl ⟨rfl, c _ _⟩
end Go.Proofs.Ytcnfmkhkibfpbaa
