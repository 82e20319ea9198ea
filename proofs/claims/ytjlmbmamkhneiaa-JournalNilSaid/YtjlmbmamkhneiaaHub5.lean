/- What a law on a hub is told of its arguments; a hub of one tap; the law HubShut. -/
import Derived.Test.YtjlmbmamkhneiaaHub4
import Derived.ProofKit
namespace Go.Proofs.Ytjlmbmamkhneiaa
open Go Go.RowKit Go.Conc
theorem rdV_of_row {k : IntKind} {w : World} {a : Option Addr} {len cap : Nat} {zs : List Int}
    (h : (a = none ∧ len = 0 ∧ cap = 0 ∧ zs = []) ∨
      ∃ x, a = some x ∧ len ≤ cap ∧ cap ≤ maxLen ∧ zs.length = cap ∧ (∀ i, i < zs.length → w.cell? (x.add i) = some (.int k (zs.getD i 0))) ∧ ∀ n ∈ zs, (Lit.int k n).wf = true) :
    RdV w (.slice a len cap) ((zs.take len).map (Value.int k)) ∧ (zs.take len).length = len := by
  rcases h with ⟨rfl, rfl, rfl, rfl⟩ | ⟨x, rfl, hl, hm, hz, hcell, hwf⟩
  · exact ⟨RdV.nil w, rfl⟩
  · have hlen : ((zs.take len).map (Value.int k)).length = len := by rw [List.length_map, List.length_take]; omega
    refine ⟨⟨some x, cap, by rw [hlen], by omega, hm, fun j u hu => ?_⟩, by rw [List.length_take]; omega⟩
    have hj : j < len := by rw [← hlen]; exact (List.getElem?_eq_some_iff.1 hu).1
    rw [List.getElem?_map, List.getElem?_take_of_lt hj, List.getElem?_eq_getElem (by omega), Option.map_some, Option.some.injEq] at hu
    subst hu
    have hc := hcell j (by omega)
    rw [List.getD_eq_getElem?_getD, List.getElem?_eq_getElem (by omega), Option.getD_some] at hc
    have h0 := hcell 0 (by omega)
    obtain ⟨g, off, sp⟩ := x
    have hsp : sp = none := by
      cases sp with
      | none => rfl
      | some s => simp [Addr.add, World.cell?] at h0; split at h0 <;> simp at h0
    subst hsp
    refine ⟨g, off, rfl, ?_⟩
    rw [Addr.add_lit] at hc
    exact hc
theorem RdV.cut {w : World} {a : Option Addr} {len c n : Nat} {xs : List Value} (h : RdV w (.slice a len c) xs) (hn : n ≤ len) : RdV w (.slice a n c) (xs.take n) ∧ len = xs.length ∧ len ≤ c ∧ c ≤ maxLen := by
  obtain ⟨a', c', e, h1, h2, h3⟩ := h
  injection e with e1 e2 e3
  subst e1 e2 e3
  refine ⟨⟨a, c, by rw [List.length_take, Nat.min_eq_left hn], by rw [List.length_take]; omega, h2, fun j u hu => ?_⟩, rfl, h1, h2⟩
  have hj : j < n := by have := (List.getElem?_eq_some_iff.1 hu).1; rw [List.length_take] at this; omega
  rw [List.getElem?_take_of_lt hj] at hu
  exact h3 j u hu
theorem RdI.cut {w : World} {a : Option Addr} {len c n : Nat} {xs : List Int} (h : RdI w (.slice a len c) xs) (hn : n ≤ len) : RdI w (.slice a n c) (xs.take n) := by
  have := (RdV.cut h hn).1
  rw [← List.map_take] at this
  exact this
theorem RdI.len {w : World} {a : Option Addr} {len c : Nat} {xs : List Int} (h : RdI w (.slice a len c) xs) : len = xs.length ∧ len ≤ c ∧ c ≤ maxLen := by
  have := (RdV.cut h (Nat.le_refl len)).2
  rw [List.length_map] at this
  exact this

/-! ### A hub of one tap -/
theorem after_one (t : TapS) (R : Nat) (xs : List Int) : HubS.after ⟨[t], R⟩ xs = ⟨[xs.foldl (TapS.tell R) t], R⟩ := by
  induction xs generalizing t with
  | nil => rfl
  | cons x xs ih => exact ih (t.tell R x)
theorem tells_shut (R : Nat) (xs b : List Int) (m : Nat) : xs.foldl (TapS.tell R) ⟨false, b, m⟩ = ⟨false, b, m⟩ := by
  induction xs with
  | nil => rfl
  | cons x xs ih => exact ih
theorem tells_open (R : Nat) (xs b : List Int) (m : Nat) (hb : b.length ≤ R) : xs.foldl (TapS.tell R) ⟨true, b, m⟩ = ⟨true, b ++ xs.take (R - b.length), m + (xs.length - (R - b.length))⟩ := by
  induction xs generalizing b m with
  | nil => simp
  | cons x xs ih =>
    show xs.foldl (TapS.tell R) (TapS.tell R ⟨true, b, m⟩ x) = _
    by_cases h : b.length < R
    · have e : TapS.tell R ⟨true, b, m⟩ x = ⟨true, b ++ [x], m⟩ := by simp [TapS.tell, h]
      rw [e, ih _ _ (by simp; omega)]
      obtain ⟨d, hd⟩ : ∃ d, R - b.length = d + 1 := ⟨R - b.length - 1, by omega⟩
      have hd2 : R - (b ++ [x]).length = d := by simp; omega
      rw [hd, hd2]
      simp
    · have e : TapS.tell R ⟨true, b, m⟩ x = ⟨true, b, m + 1⟩ := by simp [TapS.tell, h]
      rw [e, ih _ _ hb]
      have : R - b.length = 0 := by omega
      rw [this]
      simp; omega
theorem hits_shut (R : Nat) (xs b : List Int) (m : Nat) : HubS.hits ⟨[⟨false, b, m⟩], R⟩ xs = 0 := by
  induction xs with
  | nil => rfl
  | cons x xs ih => show 0 + HubS.hits ⟨[⟨false, b, m⟩], R⟩ xs = 0; omega
theorem take_one (R m : Nat) (x : Int) (b : List Int) : HubS.take ⟨[⟨false, x :: b, m⟩], R⟩ 0 = (⟨[⟨false, b, m⟩], R⟩, x, true) := rfl
end Go.Proofs.Ytjlmbmamkhneiaa
