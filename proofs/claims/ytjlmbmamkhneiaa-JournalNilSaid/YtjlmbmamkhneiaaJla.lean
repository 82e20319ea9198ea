/- The walks of the laws JournalNeed and JournalNil. -/
import Derived.Test.YtjlmbmamkhneiaaAwj
namespace Go.Proofs.Ytjlmbmamkhneiaa
open Go Go.RowKit
set_option maxRecDepth 100000
theorem JournalNeed_t (n : Int) (w : World) : Calls Try.prog 8 #[I n] w fun e w' => e = .returned (.bool true) ∧ Below w.heap.size w w' := by
  have N := hid (need_t n w)
  have R := hid (needR_t n w)
  generalize needZ n = z at *
  go_enter Try.func8, Try.ntmps8
  go_wp2_with fail
  refine N.out.mono ?_
  rintro e w1 ⟨rfl, rfl⟩
  go_wp2_with fail
  refine R.out.mono ?_
  rintro e w1 ⟨rfl, rfl⟩
  go_wp2_with fail
  refine (awakeJ_t w).mono ?_
  rintro e w1 ⟨rfl, hn⟩
  go_wp2_with fail
  go_ret
  exact ⟨rfl, hn.below (fun _ e => e.elim) (Nat.le_refl _)⟩
set_option maxHeartbeats 4000000 in
theorem JournalNil_t (a : Option Addr) (n c : Nat) (w : World) : Calls Try.prog 10 #[.slice a n c] w fun e w' => e = .returned (.bool true) ∧ Below w.heap.size w w' := by
  go_enter Try.func10, Try.ntmps10
  go_wp2_with fail
  refine (openNil_t w).mono ?_
  rintro e w1 ⟨rfl, rfl⟩
  go_wp2_with fail
  refine (appendNil_t w _).mono ?_
  rintro e w1 ⟨rfl, rfl⟩
  go_wp2_with fail
  refine (syncNil_t w).mono ?_
  rintro e w1 ⟨rfl, rfl⟩
  go_wp2_with fail
  refine (renewNil_t _ _).mono ?_
  rintro e w1 ⟨rfl, rfl⟩
  go_wp2_with fail
  refine (roomNil_t _).mono ?_
  rintro e w1 ⟨rfl, rfl⟩
  go_wp2_with fail
  refine (lenNil_t _).mono ?_
  rintro e w1 ⟨rfl, rfl⟩
  go_wp2_with fail
  refine (awakeJ_t _).mono ?_
  rintro e w1 ⟨rfl, hn⟩
  go_wp2_with fail
  go_ret
  exact ⟨rfl, (((Chg.refl (fun _ => False) w).alloc _).trans hn (fun _ _ e => e)).below (fun _ e => e.elim) (Nat.le_refl _)⟩
end Go.Proofs.Ytjlmbmamkhneiaa
