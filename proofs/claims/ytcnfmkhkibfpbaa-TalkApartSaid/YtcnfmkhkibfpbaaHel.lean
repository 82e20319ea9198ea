/- The walks of the chapter's example. -/
import Derived.Test.YtcnfmkhkibfpbaaDone
import Derived.Test.YtcnfmkhkibfpbaaName
import Derived.Deep.RegionHeld3
namespace Go.Proofs.Ytcnfmkhkibfpbaa
open Go Go.RowKit
theorem heap_alloc12 (w : World) (o1 o2 : Obj) : ((w.alloc o1).alloc o2).heap[w.heap.size]? = some o1 := by
  rw [Below.heap_alloc (w.alloc o1) o2 _ (by simp)]; exact heap_alloc_new w o1
def flags7 : Value := .agg #[.bool false, .bool false, .bool false, .bool false, .bool true, .bool false, .bool false, .bool false]
set_option maxHeartbeats 4000000 in
theorem fields7_t (w : World) : Calls Try.prog 35 #[.int .i64 7] w fun e w' => e = .returned (.agg #[.bool false, .bool false, .bool false, .bool false, .bool true, .bool false, .bool false, .bool false]) ∧ Chg (fun _ => False) w w' := by
  go_enter Try.func35, Try.ntmps35
  go_wp2
  refine bodyPost_ret (results_cell_row rfl _ _ w.heap.size 69 #[.bool false, .bool false, .bool false, .bool false, .bool true, .bool false, .bool false, .bool false] (0, 0) _ rfl (heap_alloc12 w _ _) Try.underlying69 rfl (by kernel_rfl)) rfl ⟨rfl, ((Chg.refl _ w).alloc _).alloc _⟩
abbrev ann : ByteArray := ⟨#[97, 110, 110]⟩
abbrev hello : Array Value := #[.int .i64 7, .int .u32 0, .int .u64 0, .int .u32 0, .int .i64 0, .string ann, .int .u64 0, .int .u64 0, .int .i64 0]
theorem cells9 {w : World} {g : Nat} {t : TypeId} {x0 x1 x2 x3 x4 x5 x6 x7 x8 : Value} (hg : w.heap[g]? = some (.cells #[x0, x1, x2, x3, x4, x5, x6, x7, x8] t (0, 0))) :
    w.cell? ⟨g, 0, none⟩ = some x0 ∧ w.cell? ⟨g, 1, none⟩ = some x1 ∧ w.cell? ⟨g, 2, none⟩ = some x2 ∧ w.cell? ⟨g, 3, none⟩ = some x3 ∧ w.cell? ⟨g, 4, none⟩ = some x4 ∧ w.cell? ⟨g, 5, none⟩ = some x5 ∧
    w.cell? ⟨g, 6, none⟩ = some x6 ∧ w.cell? ⟨g, 7, none⟩ = some x7 ∧ w.cell? ⟨g, 8, none⟩ = some x8 ∧ ∀ i, w.frozen? ⟨g, i, none⟩ = false :=
  ⟨by rw [cell_of_row w g 0 _ t _ hg]; rfl, by rw [cell_of_row w g 1 _ t _ hg]; rfl, by rw [cell_of_row w g 2 _ t _ hg]; rfl, by rw [cell_of_row w g 3 _ t _ hg]; rfl, by rw [cell_of_row w g 4 _ t _ hg]; rfl,
    by rw [cell_of_row w g 5 _ t _ hg]; rfl, by rw [cell_of_row w g 6 _ t _ hg]; rfl, by rw [cell_of_row w g 7 _ t _ hg]; rfl, by rw [cell_of_row w g 8 _ t _ hg]; rfl, fun i => frozen_of_row w g i _ t hg⟩
theorem two_kept {w w1 : World} {o1 o2 : Obj} (hc : Chg (fun _ => False) ((w.alloc o1).alloc o2) w1) : w1.heap[w.heap.size]? = some o1 ∧ w1.heap[w.heap.size + 1]? = some o2 ∧ w.heap.size < w1.heap.size ∧ w.heap.size + 1 < w1.heap.size := by
  have hs := hc.size
  simp only [World.size_alloc] at hs
  refine ⟨(hc.block _ (by simp; omega) (fun e => e)).trans (heap_alloc12 w o1 o2), (hc.block _ (by simp) (fun e => e)).trans ?_, by omega, by omega⟩
  have := heap_alloc_new (w.alloc o1) o2
  simpa only [World.size_alloc] using this
def World.set9 (w : World) (g : Nat) (x0 x1 x2 x3 x4 x5 x6 x7 x8 : Value) : World := ((((((((w.setCell ⟨g, 0, none⟩ x0).setCell ⟨g, 1, none⟩ x1).setCell ⟨g, 2, none⟩ x2).setCell ⟨g, 3, none⟩ x3).setCell ⟨g, 4, none⟩ x4).setCell ⟨g, 5, none⟩ x5).setCell ⟨g, 6, none⟩ x6).setCell ⟨g, 7, none⟩ x7).setCell ⟨g, 8, none⟩ x8
theorem store9 {w : World} {g : Nat} {t : TypeId} {y0 y1 y2 y3 y4 y5 y6 y7 y8 : Value} (hg : w.heap[g]? = some (.cells #[y0, y1, y2, y3, y4, y5, y6, y7, y8] t (0, 0))) (x0 x1 x2 x3 x4 x5 x6 x7 x8 : Value) :
    (World.set9 w g x0 x1 x2 x3 x4 x5 x6 x7 x8).heap[g]? = some (.cells #[x0, x1, x2, x3, x4, x5, x6, x7, x8] t (0, 0)) :=
  by
    have h0 := heap_setCell_same _ g 0 _ t x0 hg
    rw [show (#[y0, y1, y2, y3, y4, y5, y6, y7, y8] : Array Value).setIfInBounds 0 x0 = #[x0, y1, y2, y3, y4, y5, y6, y7, y8] from rfl] at h0
    have h1 := heap_setCell_same _ g 1 _ t x1 h0
    rw [show (#[x0, y1, y2, y3, y4, y5, y6, y7, y8] : Array Value).setIfInBounds 1 x1 = #[x0, x1, y2, y3, y4, y5, y6, y7, y8] from rfl] at h1
    have h2 := heap_setCell_same _ g 2 _ t x2 h1
    rw [show (#[x0, x1, y2, y3, y4, y5, y6, y7, y8] : Array Value).setIfInBounds 2 x2 = #[x0, x1, x2, y3, y4, y5, y6, y7, y8] from rfl] at h2
    have h3 := heap_setCell_same _ g 3 _ t x3 h2
    rw [show (#[x0, x1, x2, y3, y4, y5, y6, y7, y8] : Array Value).setIfInBounds 3 x3 = #[x0, x1, x2, x3, y4, y5, y6, y7, y8] from rfl] at h3
    have h4 := heap_setCell_same _ g 4 _ t x4 h3
    rw [show (#[x0, x1, x2, x3, y4, y5, y6, y7, y8] : Array Value).setIfInBounds 4 x4 = #[x0, x1, x2, x3, x4, y5, y6, y7, y8] from rfl] at h4
    have h5 := heap_setCell_same _ g 5 _ t x5 h4
    rw [show (#[x0, x1, x2, x3, x4, y5, y6, y7, y8] : Array Value).setIfInBounds 5 x5 = #[x0, x1, x2, x3, x4, x5, y6, y7, y8] from rfl] at h5
    have h6 := heap_setCell_same _ g 6 _ t x6 h5
    rw [show (#[x0, x1, x2, x3, x4, x5, y6, y7, y8] : Array Value).setIfInBounds 6 x6 = #[x0, x1, x2, x3, x4, x5, x6, y7, y8] from rfl] at h6
    have h7 := heap_setCell_same _ g 7 _ t x7 h6
    rw [show (#[x0, x1, x2, x3, x4, x5, x6, y7, y8] : Array Value).setIfInBounds 7 x7 = #[x0, x1, x2, x3, x4, x5, x6, x7, y8] from rfl] at h7
    have h8 := heap_setCell_same _ g 8 _ t x8 h7
    rw [show (#[x0, x1, x2, x3, x4, x5, x6, x7, y8] : Array Value).setIfInBounds 8 x8 = #[x0, x1, x2, x3, x4, x5, x6, x7, x8] from rfl] at h8
    exact h8
theorem chg9 {S : Nat → Prop} {w0 w : World} (h : Chg S w0 w) {g : Nat} (hg : g < w0.heap.size → S g) (x0 x1 x2 x3 x4 x5 x6 x7 x8 : Value) : Chg S w0 (World.set9 w g x0 x1 x2 x3 x4 x5 x6 x7 x8) :=
  ((((((((h.setCell hg x0).setCell hg x1).setCell hg x2).setCell hg x3).setCell hg x4).setCell hg x5).setCell hg x6).setCell hg x7).setCell hg x8
theorem set9_size (w : World) (g : Nat) (x0 x1 x2 x3 x4 x5 x6 x7 x8 : Value) : (World.set9 w g x0 x1 x2 x3 x4 x5 x6 x7 x8).heap.size = w.heap.size := by simp [World.set9]
set_option maxHeartbeats 4000000 in
theorem only7_t (w : World) : Calls Try.prog 46 #[.agg hello] w fun e w' => e = .returned (.agg hello) ∧ Chg (fun _ => False) w w' := by
  go_enter Try.func46, Try.ntmps46
  go_wp2_with fail
  refine (fields7_t _).mono ?_
  rintro e w1 ⟨rfl, hc⟩
  have HC := hid (((Chg.refl (fun _ => False) w).alloc _).alloc _ |>.trans hc (fun _ _ e => e))
  obtain ⟨e1, e2, s1, s2⟩ := two_kept hc
  obtain ⟨c0, c1, c2, c3, c4, c5, c6, c7, c8, cf⟩ := cells9 e1
  obtain ⟨d0, d1, d2, d3, d4, d5, d6, d7, d8, df⟩ := cells9 e2
  have E2 := hid e2
  clear hc e1 e2
  generalize hk : w.heap.size = k at *
  have HK := hid hk
  clear hk
  have n1 : k ≠ w1.heap.size := by omega
  have n2 : k + 1 ≠ w1.heap.size := by omega
  go_wp2
  have hb := store9 E2.out (.int .i64 7) (.int .u32 0) (.int .u64 0) (.int .u32 0) (.int .i64 0) (.string ann) (.int .u64 0) (.int .u64 0) (.int .i64 0)
  have hcc := chg9 HC.out (g := k + 1) (by rw [HK.out]; omega) (.int .i64 7) (.int .u32 0) (.int .u64 0) (.int .u32 0) (.int .i64 0) (.string ann) (.int .u64 0) (.int .u64 0) (.int .i64 0)
  have hz := set9_size w1 (k + 1) (.int .i64 7) (.int .u32 0) (.int .u64 0) (.int .u32 0) (.int .i64 0) (.string ann) (.int .u64 0) (.int .u64 0) (.int .i64 0)
  refine bodyPost_ret (results_cell_row rfl _ _ (k + 1) 49 hello (0, 0) _ rfl (((Below.heap_alloc _ _ _ (by simp; omega)).trans (Below.heap_alloc _ _ _ (by simp; omega))).trans hb) Try.underlying49 rfl (by kernel_rfl)) rfl ⟨rfl, (hcc.alloc _).alloc _⟩
end Go.Proofs.Ytcnfmkhkibfpbaa
