/- The walks of slices.Clone, at bytes and at whole numbers. -/
import Derived.Test.YtjlmbmamkhneiaaOff2
namespace Go.Proofs.Ytjlmbmamkhneiaa
open Go Go.RowKit
set_option linter.unusedVariables false
theorem info5 : (Try.prog.info? 5).map (fun i => (i.zero, i.size, i.bytes)) = some (some (.int .u8 0), 1, 1) := by kernel_rfl
theorem info3' : (Try.prog.info? 3).map (fun i => (i.zero, i.size, i.bytes)) = some (some (.int .i64 0), 1, 8) := by kernel_rfl
theorem T22 : SliceTy Try.prog 22 5 (.int .u8 0) 1 := ⟨Try.underlying22, info_parts info5⟩
theorem T24 : SliceTy Try.prog 24 3 (.int .i64 0) 8 := ⟨Try.underlying24, info_parts info3'⟩
theorem own_empty {w : World} (base : Nat) (e : TypeId) (hb : base ≤ w.heap.size) : (w.alloc (.cells #[] e)).ownsRow base e 1 (.slice (some ⟨w.heap.size, 0, none⟩) 0 0) ([] : List Value).length [] :=
  ⟨rfl, .inr ⟨w.heap.size, 0, #[], rfl, hb, heap_alloc_new _ _, Nat.le_refl _, by simp [maxLen], rfl, rfl⟩⟩
theorem eql_nil22 (w : World) (a : Option Addr) (l c : Nat) : (binOp .eql 22 (.slice a l c) (.slice none 0 0)).run Try.prog w = .ok (.bool a.isNone) w := Lib.run_eql_slice_nil w 22 5 a l c 0 0 Try.underlying22
theorem eql_nil24 (w : World) (a : Option Addr) (l c : Nat) : (binOp .eql 24 (.slice a l c) (.slice none 0 0)).run Try.prog w = .ok (.bool a.isNone) w := Lib.run_eql_slice_nil w 24 3 a l c 0 0 Try.underlying24
theorem RdV.nil_of {w : World} {l c : Nat} {xs : List Value} (h : RdV w (.slice none l c) xs) : xs = [] := by
  cases xs with
  | nil => rfl
  | cons b bs =>
    obtain ⟨_, _, e, _, _, hc⟩ := h
    obtain ⟨g, off, e2, _⟩ := hc 0 b rfl
    injection e with e1
    rw [← e1] at e2
    cases e2
theorem cloneB_t (w : World) (v : Value) (xs : List Value) (h : RdV w v xs) (h1 : ∀ u ∈ xs, u.oneCell' = true) (hl : xs.length ≤ 1048576) : Calls Try.prog 54 #[v] w fun e w' => ∃ r, e = .returned r ∧ w'.ownsRow w.heap.size 5 1 r xs.length xs ∧ New w w' := by
  obtain ⟨a, c, rfl⟩ := h.shape
  have H := hid h
  have H1 := hid h1
  clear h h1
  cases a with
  | none =>
    have he := fun w => eql_nil22 w none xs.length c
    go_enter Try.func54, Try.ntmps54
    go_wp2
    go_ret
    have hb0 : xs = [] := H.out.nil_of
    subst hb0
    exact ⟨.slice none 0 0, rfl, World.ownsRow_nil _ _ _ _, Chg.refl _ _⟩
  | some a =>
    have he := fun w => eql_nil22 w (some a) xs.length c
    go_enter Try.func54, Try.ntmps54
    go_wp2_with (at_builtin; refine wpl_append rfl _ _ 22 rfl T22 rfl w.heap.size _ [] rfl (own_empty _ 5 (Nat.le_refl _)) _ rfl xs (H.out.alloc _) H1.out ?c1 ?c2 ?c3 ?c4)
    case c1 => simp; omega
    case c2 => simp [maxLen]; omega
    case c3 => exact Nat.le_of_lt (by simp)
    case c4 =>
      intro v1 w1 hown hg
      have HO := hid hown
      have HG := hid hg
      clear hown hg
      go_wp2
      go_ret
      exact ⟨v1, rfl, by simpa using HO.out, ((Chg.refl _ w).alloc _).grown HG.out (fun k hk hlt => by simp [Value.ownBlock] at hk; omega)⟩
theorem cloneI_t (w : World) (v : Value) (xs : List Value) (h : RdV w v xs) (h1 : ∀ u ∈ xs, u.oneCell' = true) (hl : xs.length * 8 ≤ 140737488355328) : Calls Try.prog 60 #[v] w fun e w' => ∃ r, e = .returned r ∧ w'.ownsRow w.heap.size 3 1 r xs.length xs ∧ New w w' := by
  obtain ⟨a, c, rfl⟩ := h.shape
  have H := hid h
  have H1 := hid h1
  clear h h1
  cases a with
  | none =>
    have he := fun w => eql_nil24 w none xs.length c
    go_enter Try.func60, Try.ntmps60
    go_wp2
    go_ret
    have hb0 : xs = [] := H.out.nil_of
    subst hb0
    exact ⟨.slice none 0 0, rfl, World.ownsRow_nil _ _ _ _, Chg.refl _ _⟩
  | some a =>
    have he := fun w => eql_nil24 w (some a) xs.length c
    go_enter Try.func60, Try.ntmps60
    go_wp2_with (at_builtin; refine wpl_append rfl _ _ 24 rfl T24 rfl w.heap.size _ [] rfl (own_empty _ 3 (Nat.le_refl _)) _ rfl xs (H.out.alloc _) H1.out ?c1 ?c2 ?c3 ?c4)
    case c1 => simp; omega
    case c2 => simp [maxLen]; omega
    case c3 => exact Nat.le_of_lt (by simp)
    case c4 =>
      intro v1 w1 hown hg
      have HO := hid hown
      have HG := hid hg
      clear hown hg
      go_wp2
      go_ret
      exact ⟨v1, rfl, by simpa using HO.out, ((Chg.refl _ w).alloc _).grown HG.out (fun k hk hlt => by simp [Value.ownBlock] at hk; omega)⟩
end Go.Proofs.Ytjlmbmamkhneiaa
