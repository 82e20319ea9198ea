/- The walks of the reference's 'turn', 'mix' and 'rounds'. -/
import Derived.Test.YtcnfmkhkibfpbaaSip
namespace Go.Proofs.Ytcnfmkhkibfpbaa
open Go Go.RowKit
theorem n64_dbl (x : BitVec 64) : IntKind.u64.wrap (n64 x * 2) = n64 (x <<< 1) := by
  have := u64_shl_bv x 1
  simpa using this
theorem n64_dbl' (x : BitVec 64) : n64 x * 2 % 18446744073709551616 = n64 (x <<< 1) := by
  rw [← n64_dbl]; simp [IntKind.wrap, IntKind.bits, IntKind.signed]
theorem n64_top (x : BitVec 64) : n64 x / (9223372036854775808 : Int) = n64 (x >>> 63) := by
  rw [show (9223372036854775808 : Int) = 2 ^ 63 by decide]; exact u64_shr_bv x 63
theorem n64_turn (x : BitVec 64) : IntKind.u64.wrap (n64 (x <<< 1) + n64 x / (9223372036854775808 : Int)) = n64 (x <<< 1 + x >>> 63) := by
  rw [n64_top, u64_add_bv]
attribute [local go_sem] u64_xor_bv u64_add_bv u64_add_bv' n64_dbl n64_dbl'

def turnB : Nat → BitVec 64 → BitVec 64
  | 0, x => x
  | k + 1, x => (turnB k x) <<< 1 + (turnB k x) >>> 63

theorem turn_t (x : BitVec 64) (k : Int) (h0 : 0 ≤ k) (h1 : k ≤ 64) (w : World) :
    Calls Try.prog 44 #[U64 x, .int .i64 k] w fun e w' => e = .returned (U64 (turnB k.toNat x)) ∧ w = w' := by
  go_enter Try.func44, Try.ntmps44
  go_wp2
  go_loop [0, 5] (fun v i => ∃ m : Nat, v = U64 (turnB m x) ∧ i = .int .i64 m ∧ m ≤ k) (fun v i => k.toNat - (intOf i).toNat)
  case atStart => exact ⟨0, rfl, rfl, by omega⟩
  case round =>
    obtain ⟨m, rfl, rfl, hm⟩ := hrel
    have HT := hid (show turnB (m + 1) x = (turnB m x) <<< 1 + (turnB m x) >>> 63 from rfl)
    generalize hy : turnB m x = y at *
    have HY := hid hy
    clear hy
    have hn := n64_range y
    by_cases hlt : m < k
    · go_wp2
      exact ⟨⟨m + 1, vi (by rw [HT.out, n64_turn]), by go_num, by omega⟩, by simp [intOf]; omega⟩
    · go_wp2
      go_ret
      obtain rfl : m = k.toNat := by omega
      exact ⟨by rw [HY.out]; rfl, rfl⟩

theorem mix_t (x y : BitVec 64) (k : Int) (h0 : 0 ≤ k) (h1 : k ≤ 64) (w : World) :
    Calls Try.prog 43 #[U64 x, U64 y, .int .i64 k] w fun e w' => e = .returned (.tuple #[U64 (x + y), U64 (turnB k.toNat y ^^^ (x + y))]) ∧ w = w' := by
  go_enter Try.func43, Try.ntmps43
  go_wp2_with fail
  refine (turn_t y k h0 h1 _).mono ?_
  rintro e w' ⟨rfl, rfl⟩
  go_wp2
  go_ret2
  exact ⟨rfl, rfl⟩

theorem store4 {w : World} {g : Nat} {t : TypeId} {y0 y1 y2 y3 : Value} (hg : w.heap[g]? = some (.cells #[y0, y1, y2, y3] t (0, 0))) (x0 x1 x2 x3 : Value) :
    ((((w.setCell ⟨g, 0, none⟩ x0).setCell ⟨g, 1, none⟩ x1).setCell ⟨g, 2, none⟩ x2).setCell ⟨g, 3, none⟩ x3).heap[g]? = some (.cells #[x0, x1, x2, x3] t (0, 0)) :=
  heap_setCell_same _ g 3 _ t x3 (heap_setCell_same _ g 2 _ t x2 (heap_setCell_same _ g 1 _ t x1 (heap_setCell_same w g 0 _ t x0 hg)))
theorem store4_other {w : World} {g k : Nat} (hk : k ≠ g) (x0 x1 x2 x3 : Value) :
    ((((w.setCell ⟨g, 0, none⟩ x0).setCell ⟨g, 1, none⟩ x1).setCell ⟨g, 2, none⟩ x2).setCell ⟨g, 3, none⟩ x3).heap[k]? = w.heap[k]? := by
  rw [heap_setCell_other _ _ _ _ hk, heap_setCell_other _ _ _ _ hk, heap_setCell_other _ _ _ _ hk, heap_setCell_other _ _ _ _ hk]
theorem below_store4 {B g : Nat} {w0 w : World} (h : Below B w0 w) (hB : B ≤ g) (x0 x1 x2 x3 : Value) :
    Below B w0 ((((w.setCell ⟨g, 0, none⟩ x0).setCell ⟨g, 1, none⟩ x1).setCell ⟨g, 2, none⟩ x2).setCell ⟨g, 3, none⟩ x3) :=
  (((h.setCell hB _).setCell hB _).setCell hB _).setCell hB _
theorem below_drewN {B : Nat} {w0 w : World} (h : Below B w0 w) (n : Nat) : Below B w0 (w.drewN n) := ⟨h.os, h.tape, h.output, h.size, h.block⟩

def Sip.rround (v : Sip) : Sip :=
  let a := v.a + v.b
  let b := turnB 13 v.b ^^^ a
  let a := turnB 32 a
  let c := v.c + v.d
  let d := turnB 16 v.d ^^^ c
  let a := a + d
  let d := turnB 21 d ^^^ a
  let c := c + b
  let b := turnB 17 b ^^^ c
  let c := turnB 32 c
  ⟨a, b, c, d⟩
def Sip.rrounds : Nat → Sip → Sip
  | 0, v => v
  | n + 1, v => (Sip.rrounds n v).rround

theorem heap_alloc1 (w : World) (o p : Obj) : ((w.alloc o).alloc p).heap[w.heap.size]? = some o := by
  rw [Below.heap_alloc _ _ _ (by simp)]; exact heap_alloc_new w o
theorem heap_alloc2 (w : World) (o p : Obj) : ((w.alloc o).alloc p).heap[w.heap.size + 1]? = some p := by
  have := heap_alloc_new (w.alloc o) p
  simpa only [World.size_alloc] using this
set_option maxHeartbeats 2000000 in
theorem rounds_t (v : Sip) (n : Nat) (hn : n ≤ 4) (w0 : World) :
    Calls Try.prog 32 #[.agg v.cells, .int .i64 n] w0 fun e w' => e = .returned (.agg (Sip.rrounds n v).cells) ∧ Below w0.heap.size w0 w' := by
  obtain ⟨a, b, c, d⟩ := v
  rw [show (Sip.mk a b c d).cells = #[U64 a, U64 b, U64 c, U64 d] from rfl]
  go_enter Try.func32, Try.ntmps32
  go_wp2
  go_loopw [5] (fun i wr => ∃ m : Nat, i = .int .i64 m ∧ m ≤ n ∧ wr.heap[w0.heap.size]? = some (.cells (Sip.rrounds m ⟨a, b, c, d⟩).cells 61 (0, 0)) ∧ wr.heap[w0.heap.size + 1]? = some (.cells #[.int .u64 0, .int .u64 0, .int .u64 0, .int .u64 0] 61 (0, 0)) ∧ Below w0.heap.size w0 wr) (fun i _ => n - (intOf i).toNat)
  case atStart => exact ⟨0, rfl, by omega, heap_alloc1 _ _ _, heap_alloc2 _ _ _, ((Below.refl _ _).alloc (Nat.le_refl _) _).alloc (by simp) _⟩
  case round =>
    obtain ⟨m, rfl, hm, hg, hg2, hbl⟩ := hrel
    have G := hid hg
    have G2 := hid hg2
    have HB := hid hbl
    have HR := hid (show Sip.rrounds (m + 1) ⟨a, b, c, d⟩ = (Sip.rrounds m ⟨a, b, c, d⟩).rround from rfl)
    clear hg hg2 hbl
    generalize hu : Sip.rrounds m ⟨a, b, c, d⟩ = u at *
    have HU := hid hu
    clear hu
    obtain ⟨a1, b1, c1, d1⟩ := u
    obtain ⟨h0, h1, h2, h3, hf⟩ := cells4 (show wr.heap[w0.heap.size]? = some (.cells #[U64 a1, U64 b1, U64 c1, U64 d1] 61 (0, 0)) from G.out)
    by_cases hlt : m < n
    · go_wp2
      go_quiet (fail)
      go_wp2_with fail
      refine (mix_t a1 b1 13 (by decide) (by decide) _).mono ?_
      rintro e w' ⟨rfl, rfl⟩
      go_wp2_with fail
      refine (turn_t _ 32 (by decide) (by decide) _).mono ?_
      rintro e w' ⟨rfl, rfl⟩
      go_wp2_with fail
      refine (mix_t _ _ 16 (by decide) (by decide) _).mono ?_
      rintro e w' ⟨rfl, rfl⟩
      go_wp2_with fail
      refine (mix_t _ _ 21 (by decide) (by decide) _).mono ?_
      rintro e w' ⟨rfl, rfl⟩
      go_wp2_with fail
      refine (mix_t _ _ 17 (by decide) (by decide) _).mono ?_
      rintro e w' ⟨rfl, rfl⟩
      go_wp2_with fail
      refine (turn_t _ 32 (by decide) (by decide) _).mono ?_
      rintro e w' ⟨rfl, rfl⟩
      go_wp2
      refine ⟨⟨m + 1, by go_num, by omega, ?_, ?_, ?_⟩, by simp [intOf]; omega⟩
      · rw [HR.out]
        exact store4 (w := wr.drewN nq) (show wr.heap[w0.heap.size]? = some (.cells #[U64 a1, U64 b1, U64 c1, U64 d1] 61 (0, 0)) from G.out) _ _ _ _
      · exact (store4_other (w := wr.drewN nq) (by omega) _ _ _ _).trans G2.out
      · exact below_store4 (below_drewN HB.out nq) (Nat.le_refl _) _ _ _ _
    · obtain ⟨k0, k1, k2, k3, kf⟩ := cells4 G2.out
      obtain rfl : m = n := by omega
      go_wp2
      refine bodyPost_ret (results_cell_row rfl _ _ (w0.heap.size + 1) 61 #[U64 a1, U64 b1, U64 c1, U64 d1] (0, 0) _ rfl (store4 G2.out _ _ _ _) Try.underlying61 rfl (by kernel_rfl)) rfl ⟨?_, ?_⟩
      · rw [HU.out]; rfl
      · exact below_store4 HB.out (by omega) _ _ _ _
end Go.Proofs.Ytcnfmkhkibfpbaa
