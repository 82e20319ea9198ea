/- The walk of May at the chapter example. -/
import Derived.Test.YtcnfmkhkibfpbaaHel
namespace Go.Proofs.Ytcnfmkhkibfpbaa
open Go Go.RowKit
def S9 (w : World) (g : Nat) (x0 x1 x2 x3 x4 x5 x6 x7 x8 : Value) : Prop := w.cell? ⟨g, 0, none⟩ = some x0 ∧ w.cell? ⟨g, 1, none⟩ = some x1 ∧ w.cell? ⟨g, 2, none⟩ = some x2 ∧ w.cell? ⟨g, 3, none⟩ = some x3 ∧ w.cell? ⟨g, 4, none⟩ = some x4 ∧ w.cell? ⟨g, 5, none⟩ = some x5 ∧
    w.cell? ⟨g, 6, none⟩ = some x6 ∧ w.cell? ⟨g, 7, none⟩ = some x7 ∧ w.cell? ⟨g, 8, none⟩ = some x8
theorem s9 {w : World} {g : Nat} {t : TypeId} {x0 x1 x2 x3 x4 x5 x6 x7 x8 : Value} (hg : w.heap[g]? = some (.cells #[x0, x1, x2, x3, x4, x5, x6, x7, x8] t (0, 0))) : S9 w g x0 x1 x2 x3 x4 x5 x6 x7 x8 :=
  have ⟨a, b, c, d, e, f, g, h, i, _⟩ := cells9 hg; ⟨a, b, c, d, e, f, g, h, i⟩
theorem chg_below {w w' : World} (h : Below w.heap.size w w') : Chg (fun _ => False) w w' := ⟨h.os, h.tape, h.output, h.size, fun k hk _ => h.block k hk⟩
theorem ann_ok : nameB ann = true := by
  have h : NameOk ann := ⟨by decide, by decide, by
    intro i h hi
    have : i < 3 := hi
    rcases (by omega : i = 0 ∨ i = 1 ∨ i = 2) with rfl | rfl | rfl
    · exact (by decide : OkAt 0 97)
    · exact (by decide : OkAt 1 110)
    · exact (by decide : OkAt 2 110)⟩
  simp [nameB, h]
set_option maxRecDepth 100000 in
set_option maxHeartbeats 4000000 in
theorem may7_t (w : World) : Calls Try.prog 34 #[.agg hello] w fun e w' => e = .returned (.bool true) ∧ Chg (fun _ => False) w w' := by
  go_enter Try.func34, Try.ntmps34
  go_wp2_with fail
  have hb := heap_alloc_new w (.cells hello 49)
  have HB := hid hb
  obtain ⟨c0, c1, c2, c3, c4, c5, c6, c7, c8, cf⟩ := cells9 hb
  clear hb
  have hk := World.size_alloc w (.cells hello 49)
  generalize hw1 : w.alloc (.cells hello 49) = w1 at *
  have HW1 := hid hw1
  clear hw1
  generalize hkk : w.heap.size = k at *
  have HK := hid hkk
  clear hkk
  have HC1 := hid (show Chg (fun _ => False) w w1 by rw [← HW1.out]; exact (Chg.refl _ w).alloc _)
  go_region_held3 (fun w' => w'.cell? ⟨k, 0, none⟩ = some (.int .i64 7) ∧ w'.cell? ⟨k, 1, none⟩ = some (.int .u32 0) ∧ w'.cell? ⟨k, 2, none⟩ = some (.int .u64 0) ∧ w'.cell? ⟨k, 3, none⟩ = some (.int .u32 0) ∧ w'.cell? ⟨k, 4, none⟩ = some (.int .i64 0) ∧ w'.cell? ⟨k, 5, none⟩ = some (.string ann) ∧ w'.cell? ⟨k, 6, none⟩ = some (.int .u64 0) ∧ w'.cell? ⟨k, 7, none⟩ = some (.int .u64 0) ∧ w'.cell? ⟨k, 8, none⟩ = some (.int .i64 0))
    (first | exact s9 HB.out | exact s9 HB2.out | go_keep)
    ((refine (only7_t _).mono ?_; rintro e w2 ⟨rfl, hc2⟩; have HC2 := hid hc2; have HB2 := hid ((hc2.block k (by show k < w1.heap.size; omega) (fun e => e)).trans HB.out); clear hc2))
  have HC3 := hid (HC1.out.drew.trans HC2.out (fun _ _ e => e))
  have hk2 : k < w2.heap.size := by have := HC2.out.size; exact Nat.lt_of_lt_of_le (show k < w1.heap.size by omega) this
  clear c0 c1 c2 c3 c4 c5 c6 c7 c8 cf
  obtain ⟨c0, c1, c2, c3, c4, c5, c6, c7, c8, cf⟩ := cells9 HB2.out
  have hfd : ∀ w : World, (Instr.field 69 (.agg #[.bool false, .bool false, .bool false, .bool false, .bool true, .bool false, .bool false, .bool false]) 4).run Try.prog w = .ok (.bool true) w := fun _ => by kernel_rfl
  have hann := ann_ok
  go_wp2_with fail
  go_region_held3 (fun w' => w'.cell? ⟨k, 0, none⟩ = some (.int .i64 7) ∧ w'.cell? ⟨k, 5, none⟩ = some (.string ann))
    (first | exact ⟨(s9 HB2.out).1, (s9 HB2.out).2.2.2.2.2.1⟩ | exact ⟨(s9 HB3.out).1, (s9 HB3.out).2.2.2.2.2.1⟩ | exact ⟨(s9 HB4.out).1, (s9 HB4.out).2.2.2.2.2.1⟩ | go_keep)
    (first
      | (refine (fields7_t _).mono ?_; rintro e w3 ⟨rfl, hc3⟩; have HC3' := hid hc3; have HB3 := hid ((hc3.block k (by show k < w2.heap.size; omega) (fun e => e)).trans HB2.out); clear hc3)
      | (refine (fields7_t _).mono ?_; rintro e w4 ⟨rfl, hc4⟩; have HC4' := hid hc4; have HB4 := hid ((hc4.block k (Nat.lt_of_lt_of_le (by show k < w2.heap.size; omega) HC3'.out.size) (fun e => e)).trans HB3.out); clear hc4)
      | (refine (name_t ann (by decide) _).mono ?_; rintro e w3 ⟨rfl, hc3⟩; have HC3' := hid (chg_below hc3); have HB3 := hid (((chg_below hc3).block k (by show k < w2.heap.size; omega) (fun e => e)).trans HB2.out); clear hc3)
      | (refine (name_t ann (by decide) _).mono ?_; rintro e w4 ⟨rfl, hc4⟩; have HC4' := hid (chg_below hc4); have HB4 := hid (((chg_below hc4).block k (Nat.lt_of_lt_of_le (by show k < w2.heap.size; omega) HC3'.out.size) (fun e => e)).trans HB3.out); clear hc4))
  have HC5 := hid ((HC3.out.drew.trans HC3'.out (fun _ _ e => e)).trans HC4'.out (fun _ _ e => e))
  clear c0 c1 c2 c3 c4 c5 c6 c7 c8 cf
  obtain ⟨c0, c1, c2, c3, c4, c5, c6, c7, c8, cf⟩ := cells9 HB4.out
  go_wp2
  go_ret
  exact ⟨rfl, HC5.out⟩
end Go.Proofs.Ytcnfmkhkibfpbaa
