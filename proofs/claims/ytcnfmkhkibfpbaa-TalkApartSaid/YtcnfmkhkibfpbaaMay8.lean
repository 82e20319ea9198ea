/- The walk of the program's May at a message that may be. -/
import Derived.Test.YtcnfmkhkibfpbaaOnl
namespace Go.Proofs.Ytcnfmkhkibfpbaa
open Go Go.RowKit
set_option linter.unusedVariables false
theorem name_none : nameB (⟨#[]⟩ : ByteArray) = false := nameB_len (s := ⟨#[]⟩) (by decide)
/-- Whether a kind has a user is whether the user's name may be one. -/
theorem MayOk.user {m : MsgS} (h : MayOk m) : nameB m.user = hasB m.kind 117 := by
  cases hb : hasB m.kind 117
  · rw [h.u0 hb]; exact name_none
  · exact h.u1 hb
theorem MayOk.short {m : MsgS} (h : MayOk m) : m.user.size ≤ 8 := by
  cases hb : hasB m.kind 117
  · rw [h.u0 hb]; decide
  · have hn := h.u1 hb
    by_cases hs : 1 ≤ m.user.size ∧ m.user.size ≤ 8
    · exact hs.2
    · rw [nameB_len hs] at hn; cases hn
theorem only_ok {m : MsgS} (h : MayOk m) (w : World) : Calls Try.prog 46 #[.agg (msgV m)] w fun e w' => e = .returned (.agg (msgV m)) ∧ New w w' := by
  obtain ⟨k, x, mc, i, t, s, n, g, y⟩ := m
  exact only_t k x mc i t s n g y h.k1 h.k2 h.fx h.fm h.fi h.ft h.u0 h.fn h.fg h.fw w
theorem neq49 (k x mc i t : Int) (s : ByteArray) (n g y : Int) (w : World) : (binOp .neq 49 (.agg #[.int .i64 k, .int .u32 x, .int .u64 mc, .int .u32 i, .int .i64 t, .string s, .int .u64 n, .int .u64 g, .int .i64 y]) (.agg #[.int .i64 k, .int .u32 x, .int .u64 mc, .int .u32 i, .int .i64 t, .string s, .int .u64 n, .int .u64 g, .int .i64 y])).run Try.prog w = .ok (.bool false) w := by
  simp [go_sem]
attribute [local go_sem ↓] neq49
set_option maxRecDepth 100000 in
set_option maxHeartbeats 8000000 in
theorem may_ok {m : MsgS} (h : MayOk m) (w : World) : Calls Try.prog 34 #[.agg (msgV m)] w fun e w' => e = .returned (.bool true) ∧ New w w' := by
  have ON := hid (fun w => only_ok h w)
  have FL := hid (fun w => fields_t m.kind h.k1 h.k2 w)
  have NM := hid (fun w => name_t m.user (Nat.le_trans h.short (by decide)) w)
  rw [h.user] at NM
  have h1 := h.k1
  have h2 := h.k2
  have m1 := h.m1
  have t0 := h.t0
  have t1 := h.t1
  have w0 := h.w0
  have w1' := h.w1
  obtain ⟨k, x, mc, i, t, s, n, g, y⟩ := m
  unfold flagsV at FL
  unfold msgV at ON ⊢
  dsimp only at *
  generalize hasB k 120 = bx at *
  generalize hasB k 109 = bm at *
  generalize hasB k 105 = bi at *
  generalize hasB k 116 = bt at *
  generalize hasB k 117 = bu at *
  generalize hasB k 110 = bn at *
  generalize hasB k 103 = bg at *
  generalize hasB k 119 = bw at *
  clear h
  go_enter Try.func34, Try.ntmps34
  go_wp2_with fail
  have hb := heap_alloc_new w (.cells #[.int .i64 k, .int .u32 x, .int .u64 mc, .int .u32 i, .int .i64 t, .string s, .int .u64 n, .int .u64 g, .int .i64 y] 49)
  have HB := hid hb
  obtain ⟨c0, c1, c2, c3, c4, c5, c6, c7, c8, cf⟩ := cells9 hb
  clear hb
  have hk := World.size_alloc w (.cells #[.int .i64 k, .int .u32 x, .int .u64 mc, .int .u32 i, .int .i64 t, .string s, .int .u64 n, .int .u64 g, .int .i64 y] 49)
  generalize hw1 : w.alloc (.cells #[.int .i64 k, .int .u32 x, .int .u64 mc, .int .u32 i, .int .i64 t, .string s, .int .u64 n, .int .u64 g, .int .i64 y] 49) = w1 at *
  have HW1 := hid hw1
  clear hw1
  generalize hkk : w.heap.size = k0 at *
  have HK := hid hkk
  clear hkk
  have HC1 := hid (show Chg (fun _ => False) w w1 by rw [← HW1.out]; exact (Chg.refl _ w).alloc _)
  have hd1 : decide (k < 1) = false := decide_eq_false (by omega)
  have hd2 : decide (12 < k) = false := decide_eq_false (by omega)
  go_region_held3 (fun w' => w'.cell? ⟨k0, 0, none⟩ = some (.int .i64 k) ∧ w'.cell? ⟨k0, 1, none⟩ = some (.int .u32 x) ∧ w'.cell? ⟨k0, 2, none⟩ = some (.int .u64 mc) ∧ w'.cell? ⟨k0, 3, none⟩ = some (.int .u32 i) ∧ w'.cell? ⟨k0, 4, none⟩ = some (.int .i64 t) ∧ w'.cell? ⟨k0, 5, none⟩ = some (.string s) ∧ w'.cell? ⟨k0, 6, none⟩ = some (.int .u64 n) ∧ w'.cell? ⟨k0, 7, none⟩ = some (.int .u64 g) ∧ w'.cell? ⟨k0, 8, none⟩ = some (.int .i64 y))
    (first | exact s9 HB.out | exact s9 HB2.out | go_keep)
    ((go_at_call 46; refine (ON.out _).mono ?_; rintro e w2 ⟨rfl, hc2⟩; have HC2 := hid hc2; have HB2 := hid ((hc2.block k0 (by show k0 < w1.heap.size; omega) (fun e => e)).trans HB.out); clear hc2))
  have HC3 := hid (HC1.out.drew.trans HC2.out (fun _ _ e => e))
  have hk2 : k0 < w2.heap.size := by have := HC2.out.size; exact Nat.lt_of_lt_of_le (show k0 < w1.heap.size by omega) this
  clear c0 c1 c2 c3 c4 c5 c6 c7 c8 cf
  obtain ⟨c0, c1, c2, c3, c4, c5, c6, c7, c8, cf⟩ := cells9 HB2.out
  have hfd : ∀ w : World, (Instr.field 69 (.agg #[.bool bx, .bool bm, .bool bi, .bool bt, .bool bu, .bool bn, .bool bg, .bool bw]) 4).run Try.prog w = .ok (.bool bu) w := fun _ => by kernel_rfl
  have hbb : (bu != bu) = false := bne_self_eq_false bu
  go_wp2_with fail
  go_region_held3 (fun w' => w'.cell? ⟨k0, 0, none⟩ = some (.int .i64 k) ∧ w'.cell? ⟨k0, 5, none⟩ = some (.string s))
    (first | exact ⟨(s9 HB2.out).1, (s9 HB2.out).2.2.2.2.2.1⟩ | exact ⟨(s9 HB3.out).1, (s9 HB3.out).2.2.2.2.2.1⟩ | exact ⟨(s9 HB4.out).1, (s9 HB4.out).2.2.2.2.2.1⟩ | go_keep)
    (first
      | (go_at_call 35; refine (FL.out _).mono ?_; rintro e w3 ⟨rfl, hc3⟩; have HC3' := hid hc3; have HB3 := hid ((hc3.block k0 (by show k0 < w2.heap.size; omega) (fun e => e)).trans HB2.out); clear hc3)
      | (go_at_call 35; refine (FL.out _).mono ?_; rintro e w4 ⟨rfl, hc4⟩; have HC4' := hid hc4; have HB4 := hid ((hc4.block k0 (Nat.lt_of_lt_of_le (by show k0 < w2.heap.size; omega) HC3'.out.size) (fun e => e)).trans HB3.out); clear hc4)
      | (go_at_call 24; refine (NM.out _).mono ?_; rintro e w3 ⟨rfl, hc3⟩; have HC3' := hid (chg_below hc3); have HB3 := hid (((chg_below hc3).block k0 (by show k0 < w2.heap.size; omega) (fun e => e)).trans HB2.out); clear hc3)
      | (go_at_call 24; refine (NM.out _).mono ?_; rintro e w4 ⟨rfl, hc4⟩; have HC4' := hid (chg_below hc4); have HB4 := hid (((chg_below hc4).block k0 (Nat.lt_of_lt_of_le (by show k0 < w2.heap.size; omega) HC3'.out.size) (fun e => e)).trans HB3.out); clear hc4))
  have HC5 := hid ((HC3.out.drew.trans HC3'.out (fun _ _ e => e)).trans HC4'.out (fun _ _ e => e))
  clear c0 c1 c2 c3 c4 c5 c6 c7 c8 cf
  obtain ⟨c0, c1, c2, c3, c4, c5, c6, c7, c8, cf⟩ := cells9 HB4.out
  have hy : decide (y ≤ 255) = true := decide_eq_true (by omega)
  go_wp2_with fail
  go_ret
  exact ⟨by first | rfl | (show Ending.returned (.bool (decide (y ≤ 255))) = _; rw [hy]), HC5.out⟩
end Go.Proofs.Ytcnfmkhkibfpbaa
