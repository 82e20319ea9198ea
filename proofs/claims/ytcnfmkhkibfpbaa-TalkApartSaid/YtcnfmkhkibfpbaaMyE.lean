/- The walk of the document's May: any message. -/
import Derived.Test.YtcnfmkhkibfpbaaMyA
import Derived.Test.YtcnfmkhkibfpbaaMyB
import Derived.Test.YtcnfmkhkibfpbaaMyC
import Derived.Test.YtcnfmkhkibfpbaaMyD
namespace Go.Proofs.Ytcnfmkhkibfpbaa
open Go Go.RowKit
set_option linter.unusedVariables false
set_option maxRecDepth 100000 in
set_option maxHeartbeats 8000000 in
theorem mayR_t (ms : MsgS) (w : World) : Calls Try.prog 20 #[.agg (msgV ms)] w (MayPost w ms) := by
  obtain ⟨k, x, m, i, t, s, n, g, y⟩ := ms
  by_cases h1 : k < 1
  · have c : ∀ o, New w (w.alloc o) := fun o => (Chg.refl _ w).alloc o
    unfold msgV
    dsimp only
    go_enter Try.func20, Try.ntmps20
    go_wp2_with fail
    go_ret
    exact ⟨false, rfl, c _, fun h => by cases h⟩
  by_cases h2 : 12 < k
  · have c : ∀ o, New w (w.alloc o) := fun o => (Chg.refl _ w).alloc o
    unfold msgV
    dsimp only
    go_enter Try.func20, Try.ntmps20
    go_wp2_with fail
    go_ret
    exact ⟨false, rfl, c _, fun h => by cases h⟩
  rcases (by omega : k = 1 ∨ k = 2 ∨ k = 3 ∨ k = 4 ∨ k = 5 ∨ k = 6 ∨ k = 7 ∨ k = 8 ∨ k = 9 ∨ k = 10 ∨ k = 11 ∨ k = 12) with rfl | rfl | rfl | rfl | rfl | rfl | rfl | rfl | rfl | rfl | rfl | rfl
  · exact mayR1_t x m i t s n g y w
  · exact mayR2_t x m i t s n g y w
  · exact mayR3_t x m i t s n g y w
  · exact mayR4_t x m i t s n g y w
  · exact mayR5_t x m i t s n g y w
  · exact mayR6_t x m i t s n g y w
  · exact mayR7_t x m i t s n g y w
  · exact mayR8_t x m i t s n g y w
  · exact mayR9_t x m i t s n g y w
  · exact mayR10_t x m i t s n g y w
  · exact mayR11_t x m i t s n g y w
  · exact mayR12_t x m i t s n g y w
end Go.Proofs.Ytcnfmkhkibfpbaa
