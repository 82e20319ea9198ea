/- A slice of the struct Act that the caller hands in. -/
import Derived.Test.YtjlmbmamkhneiaaStp
import Derived.Test.YtjlmbmamkhneiaaRowb
import Derived.Deep.SlicePairs
namespace Go.Proofs.Ytjlmbmamkhneiaa
open Go Go.RowKit Go.ChangeShapes
set_option linter.unusedVariables false
variable {H : Type} {enc : TypeId × Value → H} {w : World} {base : Nat} {held : Bool}
theorem five {α : Type} {l : List α} (h : l.length = 5) : ∃ a b c d e, l = [a, b, c, d, e] := by
  match l, h with
  | [a, b, c, d, e], _ => exact ⟨a, b, c, d, e, rfl⟩
set_option maxRecDepth 10000 in
theorem act_at {fuel : Nat} {cs : List Value} {x : DataW H × List MemPlace} (h : DataW.trod enc Try.prog w base (fun _ => true) held fuel 39 cs = some x) :
    ∃ (z0 z1 z2 : Int) (vb vk : Value) (b : List UInt8) (ks : List Int), cs = [I z0, I z1, I z2, vb, vk] ∧ z2 ≤ 9223372036854775807 ∧ Rd w vb b ∧ RdI w vk ks := by
  obtain ⟨xs, n, rfl, rfl, hl, hlen, hf⟩ := DataW.trod_struct Try.underlying39 h
  have hc : Try.prog.cellsOf 39 = 5 := by kernel_rfl
  rw [hc] at hl
  have hlen' : xs.length = 5 := hlen
  clear hlen
  obtain ⟨y0, y1, y2, y3, y4, rfl⟩ : ∃ y0 y1 y2 y3 y4, xs = [y0, y1, y2, y3, y4] := five hlen'
  obtain ⟨v0, v1, v2, v3, v4, rfl⟩ : ∃ y0 y1 y2 y3 y4, cs = [y0, y1, y2, y3, y4] := five hl
  clear hl hlen'
  · skip
    have c3 : Try.prog.cellsOf 3 = 1 := by kernel_rfl
    have c22 : Try.prog.cellsOf 22 = 1 := by kernel_rfl
    have c24 : Try.prog.cellsOf 24 = 1 := by kernel_rfl
    have g0 := hf 0 _ rfl
    have g1 := hf 1 _ rfl
    have g2 := hf 2 _ rfl
    have g3 := hf 3 _ rfl
    have g4 := hf 4 _ rfl
    simp [c3, c22, c24] at g0 g1 g2 g3 g4
    obtain ⟨z0, e0, _⟩ := DataW.trod_int Try.underlying3 g0
    obtain ⟨z1, e1, _⟩ := DataW.trod_int Try.underlying3 g1
    obtain ⟨z2, e2, _, w2⟩ := DataW.trod_int Try.underlying3 g2
    have hb : ∃ b, Rd w v3 b := by
      rcases open_ints Try.underlying22 Try.underlying5 (by kernel_rfl) g3 with ⟨hcs, _⟩ | ⟨x, l, c, zs, hcs, _⟩
      · cases hcs; exact bytes_of ⟨n, by first | exact g3 | simpa [Value.cells] using g3⟩
      · cases hcs; exact bytes_of ⟨n, by first | exact g3 | simpa [Value.cells] using g3⟩
    have hk : ∃ ks, RdI w v4 ks := by
      rcases open_ints Try.underlying24 Try.underlying3 (by kernel_rfl) g4 with ⟨hcs, _⟩ | ⟨x, l, c, zs, hcs, _⟩
      · cases hcs
        obtain ⟨ks, h, _⟩ := ints_of (a := none) (len := 0) (cap := 0) ⟨n, by first | exact g4 | simpa [Value.cells] using g4⟩
        exact ⟨ks, h⟩
      · cases hcs
        obtain ⟨ks, h, _⟩ := ints_of (a := some x) (len := l) (cap := c) ⟨n, by first | exact g4 | simpa [Value.cells] using g4⟩
        exact ⟨ks, h⟩
    obtain ⟨b, hb⟩ := hb
    obtain ⟨ks, hk⟩ := hk
    cases e0; cases e1; cases e2
    have b2 : -9223372036854775808 ≤ z2 ∧ z2 ≤ 9223372036854775807 := by simpa [Lit.wf, IntKind.min, IntKind.max, IntKind.signed, IntKind.bits] using w2
    exact ⟨z0, z1, z2, v3, v4, b, ks, rfl, b2.2, hb, hk⟩
/-- A slice of n acts reads well. -/
def RdActs (w : World) (a : Option Addr) (n c : Nat) : Prop := n ≤ c ∧ c ≤ maxLen ∧ ∀ i, i < n → ∃ (g off : Nat) (z0 z1 z2 : Int) (vb vk : Value) (b : List UInt8) (ks : List Int), a = some ⟨g, off, none⟩ ∧
  w.cell? ⟨g, off + i * 5, none⟩ = some (I z0) ∧ w.cell? ⟨g, off + i * 5 + 1, none⟩ = some (I z1) ∧ w.cell? ⟨g, off + i * 5 + 2, none⟩ = some (I z2) ∧ w.cell? ⟨g, off + i * 5 + 3, none⟩ = some vb ∧ w.cell? ⟨g, off + i * 5 + 4, none⟩ = some vk ∧
  z2 ≤ 9223372036854775807 ∧ Rd w vb b ∧ RdI w vk ks
theorem cellsOf39 : Try.prog.cellsOf 39 = 5 := by kernel_rfl
set_option maxRecDepth 10000 in
theorem acts_of {a : Option Addr} {len cap : Nat} {d : DataW H} {ps : List MemPlace} (h : DataW.Trod enc Try.prog w base (fun _ => true) held 35 (.slice a len cap) d ps) : RdActs w a len cap := by
  obtain ⟨fuel, hf⟩ := h
  rcases Deep.open_slice Try.underlying35 hf with ⟨hcs, _⟩ | ⟨x, l, c, m, n, D, Pl, hcs, _, hl, hm, hmm, _, hx⟩
  · simp [Value.cells] at hcs
    obtain ⟨rfl, rfl, rfl⟩ := hcs
    exact ⟨Nat.le_refl _, by simp [maxLen], fun i hi => absurd hi (Nat.not_lt_zero _)⟩
  · simp [Value.cells] at hcs
    obtain ⟨rfl, rfl, rfl⟩ := hcs
    simp only [if_true] at hmm
    subst hmm
    refine ⟨hl, hm, fun i hi => ?_⟩
    obtain ⟨cs', h1, h2⟩ := hx i (by omega)
    rw [cellsOf39] at h1
    obtain ⟨_, hlen, hcell⟩ := World.cells?_some h1
    obtain ⟨z0, z1, z2, vb, vk, b, ks, rfl, hz, hb, hk⟩ := act_at h2
    have e0 := hcell 0 (by omega)
    have e1 := hcell 1 (by omega)
    have e2 := hcell 2 (by omega)
    have e3 := hcell 3 (by omega)
    have e4 := hcell 4 (by omega)
    simp only [List.getElem?_cons_zero, List.getElem?_cons_succ] at e0 e1 e2 e3 e4
    have h0 : x.spot = none := by
      obtain ⟨cs0, q1, q2⟩ := hx 0 (by omega)
      rw [cellsOf39] at q1
      obtain ⟨_, hlen0, hcell0⟩ := World.cells?_some q1
      have e := hcell0 0 (by omega)
      have ex : x.add (0 * 5) = x := rfl
      rw [ex] at e
      obtain ⟨u, hu⟩ : ∃ u, cs0[0]? = some u := ⟨cs0[0]'(by omega), List.getElem?_eq_getElem _⟩
      rw [hu] at e
      have := spot_none e
      exact congrArg Addr.spot this
    obtain ⟨g, off, sp⟩ := x
    have h0' : sp = none := h0
    subst h0'
    have hadd : ∀ (o n : Nat), (⟨g, o, none⟩ : Addr).add n = ⟨g, o + n, none⟩ := by
      intro o n
      unfold Addr.add
      split
      · rename_i h; first | (subst h; rfl) | simp_all
      · rfl
    rw [hadd, hadd] at e0 e1 e2 e3 e4
    exact ⟨g, off, z0, z1, z2, vb, vk, b, ks, rfl, e0, e1, e2, e3, e4, hz, hb, hk⟩
end Go.Proofs.Ytjlmbmamkhneiaa
