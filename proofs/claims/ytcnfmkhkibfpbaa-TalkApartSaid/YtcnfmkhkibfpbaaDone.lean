/- The walks of New (of nothing), Done, bytes.Clone. -/
import Derived.Test.YtcnfmkhkibfpbaaBits
import Derived.Test.YtcnfmkhkibfpbaaParts
import Derived.Laws.Cover3
namespace Go.Proofs.Ytcnfmkhkibfpbaa
open Go Go.RowKit
theorem eql_nil (w : World) (a : Option Addr) (l c : Nat) : (binOp .eql 22 (.slice a l c) (.slice none 0 0)).run Try.prog w = .ok (.bool a.isNone) w := by
  have h := run_equal_slice_nil (P := Try.prog) w 22 5 a l c T22.under
  simp only [binOp, Sem.run_bind, h, Result.andThen, Sem.run_pure]
theorem new_out (w : World) (base : Nat) (hbase : base ≤ w.heap.size) : OutAt (w.alloc (.cells #[.slice none 0 0, .int .i64 0] 84)) base w.heap.size (.slice none 0 0) [] 0 ∧
    Chg (fun _ => False) w (w.alloc (.cells #[.slice none 0 0, .int .i64 0] 84)) :=
  ⟨⟨heap_alloc_new w _, World.ownsRow_nil _ _ _ _, hbase⟩, (Chg.refl _ w).alloc _⟩
theorem new_t (w : World) (base : Nat) (hbase : base ≤ w.heap.size) : Calls Try.prog 36 #[.slice none 0 0] w fun e w' => e = .returned (.pointer (some ⟨w.heap.size, 0, none⟩)) ∧ OutAt w' base w.heap.size (.slice none 0 0) [] (8 * ([] : List UInt8).length) ∧ Chg (fun _ => False) w w' := by
  go_enter Try.func36, Try.ntmps36
  go_wp2
  go_loop [10] (fun j => j = .int .i64 0) (fun _ => 0)
  case atStart => rfl
  case round =>
    subst hrel
    go_wp2
    go_ret
    exact ⟨rfl, new_out w base hbase⟩
theorem clone_t (w : World) (v : Value) (bs : List UInt8) (h : Rd w v bs) (hl : bs.length ≤ 1048576) : Calls Try.prog 49 #[v] w fun e w' => ∃ r, e = .returned r ∧ w'.ownsRow w.heap.size 5 1 r bs.length (bs.map B) ∧ Chg (fun _ => False) w w' := by
  obtain ⟨a, c, rfl, hc, hm, hcell⟩ := h
  have H := hid (show Rd w (.slice a bs.length c) bs from ⟨a, c, rfl, hc, hm, hcell⟩)
  clear hcell
  cases a with
  | none =>
    have he := eql_nil w none bs.length c
    go_enter Try.func49, Try.ntmps49
    go_wp2
    go_ret
    have hb0 : bs = [] := by
      cases bs with
      | nil => rfl
      | cons b bs =>
        obtain ⟨_, _, e, _, _, hc⟩ := H.out
        obtain ⟨g, off, e2, _⟩ := hc 0 b rfl
        injection e with e1
        rw [← e1] at e2
        cases e2
    subst hb0
    exact ⟨.slice none 0 0, rfl, World.ownsRow_nil _ _ _ _, Chg.refl _ _⟩
  | some a =>
    have he := eql_nil w (some a) bs.length c
    go_enter Try.func49, Try.ntmps49
    go_wp2_with (at_builtin; refine wpl_append_bytes rfl _ _ 22 rfl T22 w.heap.size _ [] rfl (own_empty w _ 5 (Nat.le_refl _)) _ rfl bs (H.out.alloc _) ?c1 ?c2 ?c3)
    case c1 => simp; omega
    case c2 => exact Nat.le_of_lt (by simp)
    case c3 =>
      intro v1 w1 hown hg
      have HO := hid hown
      have HG := hid hg
      clear hown hg
      go_wp2
      go_ret
      exact ⟨v1, rfl, by simpa using HO.out, ((Chg.refl _ w).alloc _).grown HG.out (fun k hk hlt => by simp [Value.ownBlock] at hk; omega)⟩
theorem done_t (w : World) (base p : Nat) (v : Value) (bs : List UInt8) (n : Nat) (h : OutAt w base p v bs n) (hl : bs.length ≤ 1048576) : Calls Try.prog 39 #[.pointer (some ⟨p, 0, none⟩)] w fun e w' => ∃ r, e = .returned r ∧ w'.ownsRow w.heap.size 5 1 r bs.length (bs.map B) ∧ Chg (fun _ => False) w w' := by
  obtain ⟨h0, h1, hf⟩ := cells2 h.cells
  have hr := Rd.of_owns h.own
  have HR := hid hr
  obtain ⟨a, c, rfl⟩ := own_shape h.own
  clear hr h
  go_enter Try.func39, Try.ntmps39
  go_wp2_with fail
  refine (clone_t w _ bs HR.out hl).mono ?_
  rintro e w' ⟨r, rfl, ho, hc⟩
  have HO := hid ho
  have HC := hid hc
  clear ho hc
  go_wp2
  go_ret
  exact ⟨r, rfl, HO.out, HC.out⟩
end Go.Proofs.Ytcnfmkhkibfpbaa
