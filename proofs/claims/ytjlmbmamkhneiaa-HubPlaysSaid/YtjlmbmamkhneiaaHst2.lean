/- The walk of the step of both hubs, whatever the kind; the slice of calls that the caller hands in. -/
import Derived.Test.YtjlmbmamkhneiaaHs0
import Derived.Test.YtjlmbmamkhneiaaHs1
import Derived.Test.YtjlmbmamkhneiaaHs2
import Derived.Test.YtjlmbmamkhneiaaHs3
import Derived.Test.YtjlmbmamkhneiaaHs4
import Derived.Test.YtjlmbmamkhneiaaHs5
import Derived.Test.YtjlmbmamkhneiaaHsx
import Derived.Test.YtjlmbmamkhneiaaRowb
import Derived.Deep.SlicePairs
namespace Go.Proofs.Ytjlmbmamkhneiaa
open Go Go.RowKit Go.ChangeShapes
set_option linter.unusedVariables false
theorem step_h {S : Nat → Prop} {w : World} {h : Nat} {hv : Value} {l : List (Nat × Nat)} {H : HubS} (a : HubAt w h hv l H) (hS : ∀ k, HubB h hv l k → S k) (hN : ∀ k, w.heap.size ≤ k → S k) {v : Value} {vs : List Value} (r : RHub w v vs H.taps) (M : Nat) (hlow : H.low M) (hM : M ≤ 100000)
    (z0 z1 : Int) (vk vl : Value) (ks ls : List Int) (hk : RdI w vk ks) (hl : RdI w vl ls) (hkn : ks ≠ [] → ∀ g, vk.ownBlock = some g → ¬ S g) (hln : ls ≠ [] → ∀ g, vl.ownBlock = some g → ¬ S g) :
    Calls Try.prog 50 #[.pointer (some ⟨h, 0, none⟩), .agg #[v, I H.room], .agg #[I z0, I z1, vk, vl]] w fun e w' => ∃ v', e = .returned (.tuple #[.agg #[v', I H.room], .bool true]) ∧ StepOut S w w' h H.room (M + 5) v' := by
  by_cases e0 : z0 = 0
  · subst e0; exact step_h0 a hS hN r M hlow hM z1 vk vl ks ls hk hl hkn hln
  by_cases e3 : z0 = 3
  · subst e3; exact step_h3 a hS hN r M hlow hM z1 vk vl ks ls hk hl hkn hln
  by_cases e4 : z0 = 4
  · subst e4; exact step_h4 a hS hN r M hlow hM z1 vk vl ks ls hk hl hkn hln
  by_cases e5 : z0 = 5
  · subst e5; exact step_h5 a hS hN r M hlow hM z1 vk vl ks ls hk hl hkn hln
  by_cases e1 : z0 = 1
  · subst e1; exact step_h1 a hS hN r M hlow hM z1 vk vl ks ls hk hl hkn hln
  by_cases e2 : z0 = 2
  · subst e2; exact step_h2 a hS hN r M hlow hM z1 vk vl ks ls hk hl hkn hln
  exact step_hx a hS hN r M hlow hM z0 z1 e0 e3 e4 e5 e1 e2 vk vl ks ls hk hl hkn hln
variable {H : Type} {enc : TypeId × Value → H} {w : World} {base : Nat} {held : Bool}
theorem four {α : Type} {l : List α} (h : l.length = 4) : ∃ a b c d, l = [a, b, c, d] := by
  match l, h with
  | [a, b, c, d], _ => exact ⟨a, b, c, d, rfl⟩
theorem ints_at {fuel : Nat} {v : Value} {x : DataW H × List MemPlace} (g4 : DataW.trod enc Try.prog w base (fun _ => true) held fuel 24 v.cells.toList = some x) (hv : ∃ a n c, v = .slice a n c) : ∃ ks, RdI w v ks := by
  obtain ⟨a, n, c, rfl⟩ := hv
  obtain ⟨ks, h, _⟩ := ints_of (a := a) (len := n) (cap := c) ⟨fuel, g4⟩
  exact ⟨ks, h⟩
set_option maxRecDepth 10000 in
theorem op_at {fuel : Nat} {cs : List Value} {x : DataW H × List MemPlace} (h : DataW.trod enc Try.prog w base (fun _ => true) held fuel 76 cs = some x) :
    ∃ (z0 z1 : Int) (vk vl : Value) (ks ls : List Int), cs = [I z0, I z1, vk, vl] ∧ RdI w vk ks ∧ RdI w vl ls := by
  obtain ⟨xs, n, rfl, rfl, hl, hlen, hf⟩ := DataW.trod_struct Try.underlying76 h
  have hc : Try.prog.cellsOf 76 = 4 := by kernel_rfl
  rw [hc] at hl
  have hlen' : xs.length = 4 := hlen
  clear hlen
  obtain ⟨y0, y1, y2, y3, rfl⟩ : ∃ y0 y1 y2 y3, xs = [y0, y1, y2, y3] := four hlen'
  obtain ⟨v0, v1, v2, v3, rfl⟩ : ∃ y0 y1 y2 y3, cs = [y0, y1, y2, y3] := four hl
  clear hl hlen'
  have c3 : Try.prog.cellsOf 3 = 1 := by kernel_rfl
  have c24 : Try.prog.cellsOf 24 = 1 := by kernel_rfl
  have g0 := hf 0 _ rfl
  have g1 := hf 1 _ rfl
  have g2 := hf 2 _ rfl
  have g3 := hf 3 _ rfl
  simp [c3, c24] at g0 g1 g2 g3
  obtain ⟨z0, e0, _⟩ := DataW.trod_int Try.underlying3 g0
  obtain ⟨z1, e1, _⟩ := DataW.trod_int Try.underlying3 g1
  have hk : ∀ (v : Value) (y : DataW H × List MemPlace), DataW.trod enc Try.prog w base (fun _ => true) held n 24 [v] = some y → ∃ ks, RdI w v ks := by
    intro v y g4
    rcases open_ints Try.underlying24 Try.underlying3 (by kernel_rfl) g4 with ⟨hcs, _⟩ | ⟨x, l, c, zs, hcs, _⟩
    · cases hcs
      obtain ⟨ks, h, _⟩ := ints_of (a := none) (len := 0) (cap := 0) ⟨n, by first | exact g4 | simpa [Value.cells] using g4⟩
      exact ⟨ks, h⟩
    · cases hcs
      obtain ⟨ks, h, _⟩ := ints_of (a := some x) (len := l) (cap := c) ⟨n, by first | exact g4 | simpa [Value.cells] using g4⟩
      exact ⟨ks, h⟩
  obtain ⟨ks, hks⟩ := hk _ _ g2
  obtain ⟨ls, hls⟩ := hk _ _ g3
  cases e0; cases e1
  exact ⟨z0, z1, v2, v3, ks, ls, rfl, hks, hls⟩
/-- A slice of n calls reads well. -/
def RdOps (w : World) (a : Option Addr) (n c : Nat) : Prop := n ≤ c ∧ c ≤ maxLen ∧ ∀ i, i < n → ∃ (g off : Nat) (z0 z1 : Int) (vk vl : Value) (ks ls : List Int), a = some ⟨g, off, none⟩ ∧
  w.cell? ⟨g, off + i * 4, none⟩ = some (I z0) ∧ w.cell? ⟨g, off + i * 4 + 1, none⟩ = some (I z1) ∧ w.cell? ⟨g, off + i * 4 + 2, none⟩ = some vk ∧ w.cell? ⟨g, off + i * 4 + 3, none⟩ = some vl ∧ RdI w vk ks ∧ RdI w vl ls
theorem cellsOf76 : Try.prog.cellsOf 76 = 4 := by kernel_rfl
set_option maxRecDepth 10000 in
theorem ops_of {a : Option Addr} {len cap : Nat} {d : DataW H} {ps : List MemPlace} (h : DataW.Trod enc Try.prog w base (fun _ => true) held 70 (.slice a len cap) d ps) : RdOps w a len cap := by
  obtain ⟨fuel, hf⟩ := h
  rcases Deep.open_slice Try.underlying70 hf with ⟨hcs, _⟩ | ⟨x, l, c, m, n, D, Pl, hcs, _, hl, hm, hmm, _, hx⟩
  · simp [Value.cells] at hcs
    obtain ⟨rfl, rfl, rfl⟩ := hcs
    exact ⟨Nat.le_refl _, by simp [maxLen], fun i hi => absurd hi (Nat.not_lt_zero _)⟩
  · simp [Value.cells] at hcs
    obtain ⟨rfl, rfl, rfl⟩ := hcs
    simp only [if_true] at hmm
    subst hmm
    refine ⟨hl, hm, fun i hi => ?_⟩
    obtain ⟨cs', h1, h2⟩ := hx i (by omega)
    rw [cellsOf76] at h1
    obtain ⟨_, hlen, hcell⟩ := World.cells?_some h1
    obtain ⟨z0, z1, vk, vl, ks, ls, rfl, hk, hls⟩ := op_at h2
    have e0 := hcell 0 (by omega)
    have e1 := hcell 1 (by omega)
    have e2 := hcell 2 (by omega)
    have e3 := hcell 3 (by omega)
    simp only [List.getElem?_cons_zero, List.getElem?_cons_succ] at e0 e1 e2 e3
    have h0 : x.spot = none := by
      obtain ⟨cs0, q1, q2⟩ := hx 0 (by omega)
      rw [cellsOf76] at q1
      obtain ⟨_, hlen0, hcell0⟩ := World.cells?_some q1
      have e := hcell0 0 (by omega)
      have ex : x.add (0 * 4) = x := rfl
      rw [ex] at e
      obtain ⟨u, hu⟩ : ∃ u, cs0[0]? = some u := ⟨cs0[0]'(by omega), List.getElem?_eq_getElem _⟩
      rw [hu] at e
      have := spot_none e
      exact congrArg Addr.spot this
    obtain ⟨g, off, sp⟩ := x
    have h0' : sp = none := h0
    subst h0'
    have hadd : ∀ (o n : Nat), (⟨g, o, none⟩ : Addr).add n = ⟨g, o + n, none⟩ := by
      intro o n
      unfold Addr.add
      split
      · rename_i h; first | (subst h; rfl) | simp_all
      · rfl
    rw [hadd, hadd] at e0 e1 e2 e3
    exact ⟨g, off, z0, z1, vk, vl, ks, ls, rfl, e0, e1, e2, e3, hk, hls⟩
def RdOpsV (w : World) (v : Value) (_ : Unit) : Prop := ∃ a n c, v = .slice a n c ∧ RdOps w a n c
theorem ops_of' {a : Option Addr} {len cap : Nat} {d : DataW H} {ps : List MemPlace} (h : DataW.Trod enc Try.prog w base (fun _ => true) held 70 (.slice a len cap) d ps) : ∃ l : Unit, RdOpsV w (.slice a len cap) l := ⟨(), a, len, cap, rfl, ops_of h⟩
end Go.Proofs.Ytjlmbmamkhneiaa
