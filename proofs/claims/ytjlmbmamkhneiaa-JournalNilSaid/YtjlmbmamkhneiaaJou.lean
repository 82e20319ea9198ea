/- A journal: where it stands; the walks of first, told, Room. -/
import Derived.Test.YtjlmbmamkhneiaaNed
import Derived.Test.YtjlmbmamkhneiaaWri2
import Derived.Test.YtjlmbmamkhneiaaRea
import Derived.Test.YtjlmbmamkhneiaaSyn
namespace Go.Proofs.Ytjlmbmamkhneiaa
open Go Go.RowKit
set_option maxRecDepth 100000
/-- A journal stands at block j, its device at d. -/
def JIs (w : World) (j d : Nat) (size gen term used many : Nat) : Prop :=
  w.heap[j]? = some (.cells #[.pointer (some ⟨d, 0, none⟩), I size, .int .u32 gen, .int .u32 term, I used, I many, .bool false] 102 (0, 0))
theorem cells7 {w : World} {g : Nat} {t : TypeId} {x0 x1 x2 x3 x4 x5 x6 : Value} (hg : w.heap[g]? = some (.cells #[x0, x1, x2, x3, x4, x5, x6] t (0, 0))) :
    w.cell? ⟨g, 0, none⟩ = some x0 ∧ w.cell? ⟨g, 1, none⟩ = some x1 ∧ w.cell? ⟨g, 2, none⟩ = some x2 ∧ w.cell? ⟨g, 3, none⟩ = some x3 ∧ w.cell? ⟨g, 4, none⟩ = some x4 ∧ w.cell? ⟨g, 5, none⟩ = some x5 ∧ w.cell? ⟨g, 6, none⟩ = some x6 ∧ ∀ i, w.frozen? ⟨g, i, none⟩ = false :=
  ⟨by rw [cell_of_row w g 0 _ t _ hg]; rfl, by rw [cell_of_row w g 1 _ t _ hg]; rfl, by rw [cell_of_row w g 2 _ t _ hg]; rfl, by rw [cell_of_row w g 3 _ t _ hg]; rfl, by rw [cell_of_row w g 4 _ t _ hg]; rfl, by rw [cell_of_row w g 5 _ t _ hg]; rfl, by rw [cell_of_row w g 6 _ t _ hg]; rfl, fun i => frozen_of_row w g i _ t hg⟩
theorem JIs.chg {S : Nat → Prop} {w w' : World} {j d size gen term used many : Nat} (h : JIs w j d size gen term used many) (c : Chg S w w') (hs : ¬ S j) : JIs w' j d size gen term used many :=
  (c.block j (lt_of_block h) hs).trans h
theorem JIs.dev {S : Nat → Prop} {w w' : World} {j d size gen term used many : Nat} (h : JIs w j d size gen term used many) (c : Chg (Mut S pts w) w w') : JIs w' j d size gen term used many := c.stays h (by simp [pts])
theorem jfirst_t (w : World) (j d size gen0 term used many gen : Nat) (h : JIs w j d size gen0 term used many) (hs : size ≤ 1000) (hg : gen < 4294967296) :
    Calls Try.prog 68 #[.pointer (some ⟨j, 0, none⟩), .int .u32 gen] w fun e w' => e = .returned (I ((2 + gen % 2 * size : Nat) : Int)) ∧ w = w' := by
  obtain ⟨c0, c1, c2, c3, c4, c5, c6, cf⟩ := cells7 h
  clear h c0 c2 c3 c4 c5 c6 cf
  have e1 : (gen : Int).tmod 2 = ((gen % 2 : Nat) : Int) := by rw [Int.tmod_eq_emod_of_nonneg (by omega)]; omega
  have hm : gen % 2 < 2 := Nat.mod_lt _ (by decide)
  generalize gen % 2 = m at *
  have e0 : IntKind.u32.wrap (m : Int) = (m : Int) := by rw [IntKind.wrap_u32]; omega
  have e2 : IntKind.i64.wrap (m : Int) = (m : Int) := by rw [IntKind.wrap_i64]; omega
  have hms : m * size ≤ size := by have : m = 0 ∨ m = 1 := by omega
                                   rcases this with rfl | rfl <;> omega
  have em : (m : Int) * (size : Int) = ((m * size : Nat) : Int) := by simp
  have e3 : IntKind.i64.wrap ((m : Int) * (size : Int)) = ((m * size : Nat) : Int) := by rw [em, IntKind.wrap_i64]; omega
  generalize m * size = p at *
  have e4 : IntKind.i64.wrap (2 + (p : Int)) = ((2 + p : Nat) : Int) := by rw [IntKind.wrap_i64]; omega
  go_enter Try.func68, Try.ntmps68
  go_wp2_with fail
  go_ret
  exact ⟨vr (by first | rfl | exact vi (by omega) | exact vi e4), rfl⟩
theorem jtold_t (w : World) (v : Value) : Calls Try.prog 69 #[v, .int .i64 0] w fun e w' => e = .returned (.int .i64 0) ∧ w = w' := by
  go_enter Try.func69, Try.ntmps69
  go_wp2_with fail
  go_ret
  exact ⟨rfl, rfl⟩
theorem jroom_t (w : World) (j d size gen term used many : Nat) (h : JIs w j d size gen term used many) (hs : size ≤ 1000) (hu : used ≤ size) :
    Calls Try.prog 37 #[.pointer (some ⟨j, 0, none⟩)] w fun e w' => e = .returned (I ((size - used : Nat) : Int)) ∧ ∃ k, w' = w.drewN k := by
  obtain ⟨c0, c1, c2, c3, c4, c5, c6, cf⟩ := cells7 h
  clear h c0 c2 c3 c5 c6 cf
  have e4 : IntKind.i64.wrap ((size : Int) - (used : Int)) = ((size - used : Nat) : Int) := by rw [IntKind.wrap_i64]; omega
  go_enter Try.func37, Try.ntmps37
  go_wp2_with fail
  go_quiet (fail)
  go_wp2_with fail
  go_ret
  exact ⟨vr (by first | rfl | exact vi e4), _, rfl⟩
theorem roomNil_t (w : World) : Calls Try.prog 37 #[.pointer none] w fun e w' => e = .returned (I 0) ∧ w = w' := by
  go_enter Try.func37, Try.ntmps37
  go_wp2_with fail
  go_ret
  exact ⟨rfl, rfl⟩
theorem lenNil_t (w : World) : Calls Try.prog 40 #[.pointer none] w fun e w' => e = .returned (I 0) ∧ w = w' := by
  go_enter Try.func40, Try.ntmps40
  go_wp2_with fail
  go_ret
  exact ⟨rfl, rfl⟩
theorem syncNil_t (w : World) : Calls Try.prog 38 #[.pointer none] w fun e w' => e = .returned (I 11) ∧ w = w' := by
  go_enter Try.func38, Try.ntmps38
  go_wp2_with fail
  go_ret
  exact ⟨rfl, rfl⟩
theorem appendNil_t (w : World) (v : Value) : Calls Try.prog 36 #[.pointer none, v] w fun e w' => e = .returned (I 11) ∧ w = w' := by
  go_enter Try.func36, Try.ntmps36
  go_wp2_with fail
  go_ret
  exact ⟨rfl, rfl⟩
theorem renewNil_t (w : World) (v : Value) : Calls Try.prog 39 #[.pointer none, v] w fun e w' => e = .returned (I 11) ∧ w = w' := by
  go_enter Try.func39, Try.ntmps39
  go_wp2_with fail
  go_ret
  exact ⟨rfl, rfl⟩
theorem openNil_t (w : World) : Calls Try.prog 35 #[.pointer none] w fun e w' => e = .returned (.tuple #[.pointer none, .slice none 0 0, I 11]) ∧ w = w' := by
  go_enter Try.func35, Try.ntmps35
  go_wp2_with fail
  go_ret3
  exact ⟨rfl, rfl⟩
end Go.Proofs.Ytjlmbmamkhneiaa
