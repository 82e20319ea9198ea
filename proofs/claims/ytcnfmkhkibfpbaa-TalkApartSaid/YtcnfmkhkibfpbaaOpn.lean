/- A message that the caller hands in. -/
import Derived.Test.YtcnfmkhkibfpbaaApt
import Derived.OpenShut
import Derived.ChangeArms
namespace Go.Proofs.Ytcnfmkhkibfpbaa
open Go Go.RowKit Go.ChangeShapes
set_option linter.unusedVariables false
theorem nine' {α : Type} {l : List α} (h : l.length = 9) : ∃ a b c d e f g i j, l = [a, b, c, d, e, f, g, i, j] := by
  match l, h with
  | [a, b, c, d, e, f, g, i, j], _ => exact ⟨a, b, c, d, e, f, g, i, j, rfl⟩
set_option maxRecDepth 10000 in
set_option maxHeartbeats 4000000 in
theorem msg_of {H : Type} {enc : TypeId × Value → H} {w : World} {base : Nat} {held : Bool} {cs : Array Value} {d : DataW H} {ps : List MemPlace} (h : DataW.Trod enc Try.prog w base (fun _ => true) held 41 (.agg cs) d ps) : ∃ m : MsgS, cs = msgV m ∧ MsgWf m := by
  obtain ⟨fuel, hf0⟩ := h
  have hf1 : DataW.trod enc Try.prog w base (fun _ => true) held fuel 41 cs.toList = some (d, ps) := hf0
  obtain ⟨xs, n, rfl, hxx, hl, hlen, hf⟩ := DataW.trod_struct Try.underlying41 hf1
  have hc : Try.prog.cellsOf 41 = 9 := by kernel_rfl
  rw [hc] at hl
  have hlen' : xs.length = 9 := hlen
  clear hlen
  obtain ⟨y0, y1, y2, y3, y4, y5, y6, y7, y8, rfl⟩ := nine' hlen'
  obtain ⟨v0, v1, v2, v3, v4, v5, v6, v7, v8, hcs⟩ := nine' hl
  obtain ⟨cl⟩ := cs
  simp only at hcs hf hf1
  subst hcs
  have c3 : Try.prog.cellsOf 3 = 1 := by kernel_rfl
  have c29 : Try.prog.cellsOf 29 = 1 := by kernel_rfl
  have c32 : Try.prog.cellsOf 32 = 1 := by kernel_rfl
  have c2 : Try.prog.cellsOf 2 = 1 := by kernel_rfl
  have c9 : Try.prog.cellsOf 9 = 1 := by kernel_rfl
  have g0 := hf 0 _ rfl
  have g1 := hf 1 _ rfl
  have g2 := hf 2 _ rfl
  have g3 := hf 3 _ rfl
  have g4 := hf 4 _ rfl
  have g5 := hf 5 _ rfl
  have g6 := hf 6 _ rfl
  have g7 := hf 7 _ rfl
  have g8 := hf 8 _ rfl
  simp [c3, c29, c32, c2, c9] at g0 g1 g2 g3 g4 g5 g6 g7 g8
  obtain ⟨z0, e0, _⟩ := DataW.trod_int Try.underlying3 g0
  obtain ⟨z1, e1, _, w1⟩ := DataW.trod_int Try.underlying29 g1
  obtain ⟨z2, e2, _, w2⟩ := DataW.trod_int Try.underlying32 g2
  obtain ⟨z3, e3, _, w3⟩ := DataW.trod_int Try.underlying29 g3
  obtain ⟨z4, e4, _⟩ := DataW.trod_int Try.underlying2 g4
  obtain ⟨s, e5, _⟩ := DataW.trod_string Try.underlying9 g5
  obtain ⟨z6, e6, _, w6⟩ := DataW.trod_int Try.underlying32 g6
  obtain ⟨z7, e7, _, w7⟩ := DataW.trod_int Try.underlying32 g7
  obtain ⟨z8, e8, _⟩ := DataW.trod_int Try.underlying3 g8
  cases e0; cases e1; cases e2; cases e3; cases e4; cases e5; cases e6; cases e7; cases e8
  have b1 : 0 ≤ z1 ∧ z1 ≤ 4294967295 := by simpa [Lit.wf, IntKind.min, IntKind.max, IntKind.signed, IntKind.bits] using w1
  have b2 : 0 ≤ z2 ∧ z2 ≤ 18446744073709551615 := by simpa [Lit.wf, IntKind.min, IntKind.max, IntKind.signed, IntKind.bits] using w2
  have b3 : 0 ≤ z3 ∧ z3 ≤ 4294967295 := by simpa [Lit.wf, IntKind.min, IntKind.max, IntKind.signed, IntKind.bits] using w3
  have b6 : 0 ≤ z6 ∧ z6 ≤ 18446744073709551615 := by simpa [Lit.wf, IntKind.min, IntKind.max, IntKind.signed, IntKind.bits] using w6
  have b7 : 0 ≤ z7 ∧ z7 ≤ 18446744073709551615 := by simpa [Lit.wf, IntKind.min, IntKind.max, IntKind.signed, IntKind.bits] using w7
  exact ⟨⟨z0, z1, z2, z3, z4, s, z6, z7, z8⟩, rfl, ⟨b1.1, by show z1 < _; omega, b2.1, b3.1, by show z3 < _; omega, b6.1, by show z6 < _; omega, b7.1, by show z7 < _; omega⟩⟩
end Go.Proofs.Ytcnfmkhkibfpbaa
