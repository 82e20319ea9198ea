/- The walks of journal.Need and the document's. -/
import Derived.Test.YtjlmbmamkhneiaaMem
import Derived.Test.YtjlmbmamkhneiaaProg
namespace Go.Proofs.Ytjlmbmamkhneiaa
open Go Go.RowKit
set_option maxRecDepth 100000
/-- How many blocks a record takes. -/
def needZ (n : Int) : Int := if n < 0 ∨ 1024 < n then 0 else (n + 82) / 64
theorem need_t (n : Int) (w : World) : Calls Try.prog 32 #[I n] w fun e w' => e = .returned (I (needZ n)) ∧ w = w' := by
  by_cases h1 : n < 0
  · have e : needZ n = 0 := if_pos (.inl h1)
    rw [e]
    go_enter Try.func32, Try.ntmps32
    go_wp2
    go_ret
    exact ⟨rfl, rfl⟩
  · by_cases h2 : 1024 < n
    · have e : needZ n = 0 := if_pos (.inr h2)
      rw [e]
      go_enter Try.func32, Try.ntmps32
      go_wp2
      go_ret
      exact ⟨rfl, rfl⟩
    · have e : needZ n = (n + 82) / 64 := if_neg (by omega)
      have h3 : (n + 82).tdiv 64 = (n + 82) / 64 := Int.tdiv_eq_ediv_of_nonneg (by omega)
      rw [e]
      go_enter Try.func32, Try.ntmps32
      go_wp2
      go_ret
      exact ⟨vr (vi (by go_num)), rfl⟩
theorem needR_t (n : Int) (w : World) : Calls Try.prog 33 #[I n] w fun e w' => e = .returned (I (needZ n)) ∧ w = w' := by
  by_cases h1 : n < 0
  · have e : needZ n = 0 := if_pos (.inl h1)
    rw [e]
    go_enter Try.func33, Try.ntmps33
    go_wp2
    go_ret
    exact ⟨rfl, rfl⟩
  · by_cases h2 : 1024 < n
    · have e : needZ n = 0 := if_pos (.inr h2)
      rw [e]
      go_enter Try.func33, Try.ntmps33
      go_wp2
      go_ret
      exact ⟨rfl, rfl⟩
    · have e : needZ n = (n + 82) / 64 := if_neg (by omega)
      rw [e]
      go_enter Try.func33, Try.ntmps33
      go_wp2
      go_loop [3] (fun x => ∃ m : Int, x = .int .i64 m ∧ 1 ≤ m ∧ m ≤ (n + 82) / 64) (fun x => 100 - (intOf x).toNat)
      case atStart => exact ⟨1, rfl, by omega, by omega⟩
      case round =>
        obtain ⟨m, rfl, hm, hm2⟩ := hrel
        by_cases hlt : 64 * m < n + 19
        · go_wp2
          exact ⟨⟨m + 1, by go_num, by omega, by omega⟩, by simp [intOf]; omega⟩
        · go_wp2
          go_ret
          exact ⟨vr (vi (by omega)), rfl⟩
end Go.Proofs.Ytjlmbmamkhneiaa
