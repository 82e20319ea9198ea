/- The walk of the law BlockLasts. -/
import Derived.Test.YtjlmbmamkhneiaaCpy2
import Derived.Test.YtjlmbmamkhneiaaPly
import Derived.Deep.CutBlock
namespace Go.Proofs.Ytjlmbmamkhneiaa
open Go Go.RowKit
set_option linter.unusedVariables false
section
variable {S T : Nat → Prop} {w : World} {d : Nat} {D : DevS}
theorem DevAt.part (h : DevAt S w d D) (hs : ∀ k, k < w.heap.size → S k → T k) : DevAt T w d D := let ⟨g, a, b, h⟩ := h; ⟨g, a, b, h.mono hs⟩
theorem RefAt.part (h : RefAt S w d D) (hs : ∀ k, k < w.heap.size → S k → T k) : RefAt T w d D := by
  obtain ⟨vL, vP, vK, ls, ps, h⟩ := h
  exact ⟨vL, vP, vK, ls, ps, h.dev, h.lasts, h.lb, h.pend, h.pb, h.keep, hs _ (lt_of_block h.dev) h.sd, fun k hk => hs _ (owns_block h.lasts hk).2.1 (h.sl k hk), fun k hk => hs _ (owns_block h.pend hk).2.1 (h.sp k hk), h.ok⟩
theorem DevAt.ok (h : DevAt S w d D) : DevOk D := let ⟨_, _, _, h⟩ := h; h.ok
end
/-- Behind On and Sync: all is written. -/
theorem on_sync (D : DevS) : D.on.sync = ({ D.on with lasts := settle D.pend D.lasts, pend := [] }, 0) := by
  unfold DevS.sync DevS.act DevS.on DevS.synced
  simp
theorem on_sync_kept (D : DevS) {i : Nat} (hi : i < D.lasts.length) : Kept D.on.sync.1 i (D.on.sync.1.lasts.getD i []) := by
  rw [on_sync]
  refine ⟨?_, fun p hp => by cases hp⟩
  have : i < (settle D.pend D.lasts).length := by rw [settle_len]; exact hi
  simp [this]
/-- What is read behind Off and On. -/
theorem kept_read {D : DevS} {i : Nat} {x : List UInt8} (h : Kept D i x) (hd : (D.off []).on.ready i = 0) : ((D.off []).on).block i = x := by
  have hk := h.off []
  have hp : (D.off []).on.pend = (D.off []).pend := rfl
  unfold DevS.block
  have e : ∀ (l : List (Nat × List UInt8)) (c : List UInt8), (∀ p ∈ l, p.1 ≠ i) → l.foldl (pick i) c = c := by
    intro l
    induction l with
    | nil => intro c _; rfl
    | cons p l ih =>
      intro c hl
      rw [List.foldl_cons]
      have : pick i c p = c := by unfold pick; rw [if_neg (hl p List.mem_cons_self)]
      rw [this]
      exact ih c (fun q hq => hl q (List.mem_cons_of_mem _ hq))
  rw [hp, e _ _ hk.none_]
  have := hk.at_
  show (D.off []).lasts.getD i [] = x
  rw [List.getD_eq_getElem?_getD, this]; rfl
/-- Which of the six were written since. -/
structure Turned (w : World) (tk : Nat) (T : List Bool) (D : DevS) (L : List (List UInt8)) : Prop where
  row : w.heap[tk]? = some (.cells (T.map Value.bool).toArray 42 (0, 0))
  len : T.length = 6
  six : D.lasts.length = 6
  kept : ∀ i, T[i]? = some false → Kept D i (L.getD i [])
  keep : D.keep.length ≤ 12
theorem Turned.cell {w : World} {tk : Nat} {T : List Bool} {D : DevS} {L : List (List UInt8)} (h : Turned w tk T D L) {i : Nat} (hi : i < 6) : ∃ b, T[i]? = some b ∧ w.cell? ⟨tk, i, none⟩ = some (.bool b) ∧ w.frozen? ⟨tk, i, none⟩ = false := by
  have hl := h.len
  refine ⟨T[i]'(by omega), List.getElem?_eq_getElem _, ?_, frozen_of_row w tk i _ 42 h.row⟩
  rw [cell_of_row w tk i _ 42 _ h.row]
  simp [List.getElem?_eq_getElem (show i < T.length by omega)]
theorem Turned.chg {w w' : World} {tk : Nat} {T : List Bool} {D : DevS} {L : List (List UInt8)} {S : Nat → Prop} (h : Turned w tk T D L) (c : Chg S w w') (hn : ¬ S tk) : Turned w' tk T D L :=
  ⟨(c.block tk (lt_of_block h.row) hn).trans h.row, h.len, h.six, h.kept, h.keep⟩
theorem Turned.setRow {w : World} {tk : Nat} {T : List Bool} {D : DevS} {L : List (List UInt8)} (h : Turned w tk T D L) (i : Nat) : (w.setCell ⟨tk, i, none⟩ (.bool true)).heap[tk]? = some (.cells ((T.set i true).map Value.bool).toArray 42 (0, 0)) := by
  rw [heap_setCell_same w tk i _ 42 _ h.row]; simp
/-- A round that may write block i. -/
theorem Turned.step {w w' : World} {tk : Nat} {T T' : List Bool} {D : DevS} {L : List (List UInt8)} (h : Turned w tk T D L) (z0 z1 z2 : Int) (b : List UInt8) (ks : List Int) (hks : ks.length ≤ 12)
    (hrow : w'.heap[tk]? = some (.cells (T'.map Value.bool).toArray 42 (0, 0))) (hT : (¬ (0 ≤ z0 ∧ z0 ≤ 1 ∧ 0 ≤ z1 ∧ z1 < 6) ∧ T' = T) ∨ (0 ≤ z1 ∧ z1 < 6 ∧ T' = T.set z1.toNat true)) : Turned w' tk T' (D.play z0 z1 z2 b ks) L := by
  have hl := h.len
  refine ⟨hrow, by rcases hT with ⟨_, e⟩ | ⟨_, _, e⟩ <;> rw [e] <;> simp [hl], by rw [play_lasts]; exact h.six, fun i hi => ?_, play_keep D z0 z1 z2 b ks h.keep hks⟩
  rcases hT with ⟨hn, e⟩ | ⟨h0, h6, e⟩
  · rw [e] at hi
    have : i < 6 := by rw [← hl]; exact (List.getElem?_eq_some_iff.1 hi).1
    exact (h.kept i hi).play z0 z1 z2 b ks (by omega)
  · rw [e] at hi
    by_cases hz : z1.toNat = i
    · have hi6 : i < T.length := by omega
      rw [hz, List.getElem?_set_self hi6] at hi; cases hi
    · rw [List.getElem?_set_ne hz] at hi
      exact (h.kept i hi).play z0 z1 z2 b ks (by omega)
end Go.Proofs.Ytjlmbmamkhneiaa
