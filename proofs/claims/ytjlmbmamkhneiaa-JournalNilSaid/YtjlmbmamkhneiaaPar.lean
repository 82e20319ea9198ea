/- The walk of journal.parse where no frame begins. -/
import Derived.Test.YtjlmbmamkhneiaaInc
import Derived.Test.YtjlmbmamkhneiaaRhp
namespace Go.Proofs.Ytjlmbmamkhneiaa
open Go Go.RowKit
set_option maxRecDepth 100000
set_option maxHeartbeats 4000000 in
theorem parse0_t (w : World) (v : Value) (bs : List UInt8) (h : Rd w v bs) (hl : bs.length ≤ 1048576) (h0 : 0 < bs.length) (hne : bs[0].toNat ≠ 165) :
    Calls Try.prog 81 #[v] w fun e w' => e = .returned (.tuple #[.agg #[.int .u32 0, .int .u32 0, .int .u32 0, .slice none 0 0], .bool false]) ∧ New w w' := by
  have hv : inV bs (8 * 0) 8 = bs[0].toNat := inV_byte bs 0 h0
  obtain ⟨a, c, hsh⟩ := h.shape
  rw [List.length_map] at hsh
  subst hsh
  have H := hid h
  clear h
  go_enter Try.func81, Try.ntmps81
  go_wp2_with fail
  have hw0 := heap_alloc_new w (.cells #[.int .u32 0, .int .u32 0, .int .u32 0, .slice none 0 0] 111)
  have hc0 : Chg (fun _ => False) w _ := (Chg.refl _ w).alloc (.cells #[.int .u32 0, .int .u32 0, .int .u32 0, .slice none 0 0] 111)
  have hr0 := H.out.alloc (.cells #[.int .u32 0, .int .u32 0, .int .u32 0, .slice none 0 0] 111)
  have hz0 := World.size_alloc w (.cells #[.int .u32 0, .int .u32 0, .int .u32 0, .slice none 0 0] 111)
  generalize w.alloc (.cells #[.int .u32 0, .int .u32 0, .int .u32 0, .slice none 0 0] 111) = w0 at *
  obtain ⟨k, hk⟩ : ∃ k, k = w.heap.size := ⟨_, rfl⟩
  rw [← hk] at hw0 hz0 ⊢
  have HW := hid hw0
  have HC := hid hc0
  have HK := hid hk
  have HZ := hid hz0
  clear hw0 hc0 hk hz0
  refine (of_t w0 _ bs hr0 hl).mono ?_
  rintro e w1 ⟨q, vb, rfl, hi, hn, hq1, hq2⟩
  have I1 := hid hi
  have N1 := hid hn
  have Q1 := hid (show k < q by have := HZ.out; omega)
  clear hi hn hq1 hq2 hr0
  go_wp2_with fail
  have f1 := heap_alloc_new w1 (.cells #[.pointer (some ⟨q, 0, none⟩)] 130)
  have i1 := I1.out.alloc (.cells #[.pointer (some ⟨q, 0, none⟩)] 130)
  refine (inBits_t _ q vb bs 0 8 i1 (by omega) (by omega) (by omega)).mono ?_
  rintro e w2 ⟨rfl, hi, hc⟩
  have b1 : w1.heap[k]? = some (.cells #[.int .u32 0, .int .u32 0, .int .u32 0, .slice none 0 0] 111 (0, 0)) := (N1.out.block k (lt_of_block HW.out) (fun e => e)).trans HW.out
  have b2 : w2.heap[k]? = some (.cells #[.int .u32 0, .int .u32 0, .int .u32 0, .slice none 0 0] 111 (0, 0)) :=
    (hc.block k (by have := lt_of_block b1; simp; omega) (by have := Q1.out; omega)).trans ((Below.heap_alloc w1 _ k (lt_of_block b1)).trans b1)
  have hv' : inV bs 0 8 = bs[0].toNat := hv
  rw [hv']
  have hne' : ((bs[0].toNat : Nat) : Int) ≠ 165 := by omega
  generalize bs[0].toNat = u at *
  have HI := hid hi
  have HH := hid hc
  have B2 := hid b2
  have c0 : w2.cell? ⟨k, 0, none⟩ = some (.int .u32 0) := by rw [cell_of_row w2 k 0 _ _ _ b2]; rfl
  have c1 : w2.cell? ⟨k, 1, none⟩ = some (.int .u32 0) := by rw [cell_of_row w2 k 1 _ _ _ b2]; rfl
  have c2 : w2.cell? ⟨k, 2, none⟩ = some (.int .u32 0) := by rw [cell_of_row w2 k 2 _ _ _ b2]; rfl
  have c3 : w2.cell? ⟨k, 3, none⟩ = some (.slice none 0 0) := by rw [cell_of_row w2 k 3 _ _ _ b2]; rfl
  have cf : ∀ i, w2.frozen? ⟨k, i, none⟩ = false := fun i => frozen_of_row w2 k i _ _ b2
  clear hi hc hv hv' i1 f1 b1 b2
  go_wp2_with fail
  have fin := heap_setCell_same _ k 3 _ 111 (.slice none 0 0) (heap_setCell_same _ k 2 _ 111 (.int .u32 0) (heap_setCell_same _ k 1 _ 111 (.int .u32 0) (heap_setCell_same w2 k 0 _ 111 (.int .u32 0) B2.out)))
  have hq := Q1.out
  have hk := HK.out
  refine bodyPost_ret (results_row1 rfl _ _ k 111 #[.int .u32 0, .int .u32 0, .int .u32 0, .slice none 0 0] (0, 0) _ rfl fin Try.underlying111 rfl (by kernel_rfl)) rfl ⟨rfl, ?_⟩
  have n := ((HC.out.trans N1.out (fun _ _ e => e)).alloc (.cells #[.pointer (some ⟨q, 0, none⟩)] 130)).trans (S := fun _ => False) HH.out (fun i hi e => by omega)
  exact (((n.setCell (p := ⟨k, 0, none⟩) (fun h => by simp at h; omega) _).setCell (p := ⟨k, 1, none⟩) (fun h => by simp at h; omega) _).setCell (p := ⟨k, 2, none⟩) (fun h => by simp at h; omega) _).setCell (p := ⟨k, 3, none⟩) (fun h => by simp at h; omega) _
end Go.Proofs.Ytjlmbmamkhneiaa
