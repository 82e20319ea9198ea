/- What a device keeps: a block that no act writes; the walk of the document's Copy. -/
import Derived.Test.YtjlmbmamkhneiaaAop
namespace Go.Proofs.Ytjlmbmamkhneiaa
open Go Go.RowKit
set_option linter.unusedVariables false
/-- Block i lasts as x, and no write to it is pending. -/
structure Kept (D : DevS) (i : Nat) (x : List UInt8) : Prop where
  at_ : D.lasts[i]? = some x
  none_ : ∀ p ∈ D.pend, p.1 ≠ i
theorem tear_far (keep : List Int) {i : Nat} : ∀ (ps : List (Nat × List UInt8)) (j : Nat) (L : List (List UInt8)), (∀ p ∈ ps, p.1 ≠ i) → (tear keep j ps L)[i]? = L[i]?
  | [], _, _, _ => rfl
  | p :: ps, j, L, h => by
    unfold tear
    rw [tear_far keep ps (j + 1) _ (fun q hq => h q (List.mem_cons_of_mem _ hq))]
    unfold tearAt
    rw [List.getElem?_set_ne (h p List.mem_cons_self)]
theorem settle_far {i : Nat} : ∀ (ps : List (Nat × List UInt8)) (L : List (List UInt8)), (∀ p ∈ ps, p.1 ≠ i) → (settle ps L)[i]? = L[i]?
  | [], _, _ => rfl
  | p :: ps, L, h => by
    have e : settle (p :: ps) L = settle ps (L.set p.1 p.2) := rfl
    rw [e, settle_far ps _ (fun q hq => h q (List.mem_cons_of_mem _ hq)), List.getElem?_set_ne (h p List.mem_cons_self)]
section
variable {D : DevS} {i : Nat} {x : List UInt8}
theorem Kept.off (h : Kept D i x) (ks : List Int) : Kept (D.off ks) i x := by
  unfold DevS.off
  split
  · exact h
  · exact ⟨(tear_far ks _ 0 _ h.none_).trans h.at_, fun p hp => (by cases hp)⟩
theorem Kept.act (h : Kept D i x) : Kept D.act.1 i x := by
  unfold DevS.act
  split
  · exact h
  · split
    · exact ⟨h.at_, h.none_⟩
    · exact Kept.off (D := { D with fuse := 0 }) ⟨h.at_, h.none_⟩ _
theorem Kept.sync (h : Kept D i x) : Kept D.sync.1 i x := by
  unfold DevS.sync
  split
  · exact h
  · split
    · exact ⟨(settle_far _ _ h.act.none_).trans h.act.at_, fun p hp => (by cases hp)⟩
    · exact h.act
theorem Kept.write (h : Kept D i x) {z : Int} (hz : z ≠ i) (b : List UInt8) : Kept (D.write z b).1 i x := by
  unfold DevS.write
  split
  · exact h
  · rename_i hr
    split
    · exact h
    · split
      · refine ⟨h.act.at_, fun p hp => ?_⟩
        rcases List.mem_append.1 hp with hp | hp
        · exact h.act.none_ p hp
        · rw [List.mem_singleton.1 hp]
          have : 0 ≤ z := by
            unfold DevS.ready at hr
            by_cases hd : D.down = true
            · rw [if_pos hd] at hr; exact absurd (by decide) hr
            · rw [if_neg hd] at hr
              by_cases hq : 0 ≤ z ∧ z < D.lasts.length
              · exact hq.1
              · rw [if_neg hq] at hr; exact absurd (by decide) hr
          show z.toNat ≠ i
          omega
      · exact h.act
theorem Kept.play (h : Kept D i x) (z0 z1 z2 : Int) (b : List UInt8) (ks : List Int) (hz : ¬ (0 ≤ z0 ∧ z0 ≤ 1 ∧ z1 = i)) : Kept (D.play z0 z1 z2 b ks) i x := by
  unfold DevS.play
  split
  · exact h.write (by omega) b
  · split
    · exact h.sync
    · split
      · exact h.off ks
      · split
        · exact ⟨h.at_, h.none_⟩
        · split
          · exact ⟨h.at_, h.none_⟩
          · exact h
end
theorem off_lasts (D : DevS) (ks : List Int) : (D.off ks).lasts.length = D.lasts.length := by
  unfold DevS.off; split
  · rfl
  · exact tear_len _ _ _ _
theorem act_lasts (D : DevS) : D.act.1.lasts.length = D.lasts.length := by
  unfold DevS.act
  split
  · rfl
  · split
    · rfl
    · exact off_lasts _ _
theorem play_lasts (D : DevS) (z0 z1 z2 : Int) (b : List UInt8) (ks : List Int) : (D.play z0 z1 z2 b ks).lasts.length = D.lasts.length := by
  have ha := act_lasts D
  unfold DevS.play
  split
  · unfold DevS.write
    split
    · rfl
    · split
      · rfl
      · split
        · exact ha
        · exact ha
  · split
    · unfold DevS.sync
      split
      · rfl
      · split
        · exact (settle_len _ _).trans ha
        · exact ha
    · split
      · exact off_lasts _ _
      · split
        · rfl
        · split <;> rfl
theorem act_keep (D : DevS) : D.act.1.keep = D.keep := by
  unfold DevS.act DevS.off
  split
  · rfl
  · split
    · rfl
    · split <;> rfl
theorem play_keep (D : DevS) (z0 z1 z2 : Int) (b : List UInt8) (ks : List Int) {n : Nat} (h : D.keep.length ≤ n) (hk : ks.length ≤ n) : (D.play z0 z1 z2 b ks).keep.length ≤ n := by
  have ha := act_keep D
  unfold DevS.play
  split
  · unfold DevS.write
    split
    · exact h
    · split
      · exact h
      · split
        · show D.act.1.keep.length ≤ n
          rw [ha]; exact h
        · rw [ha]; exact h
  · split
    · unfold DevS.sync
      split
      · exact h
      · split
        · show D.act.1.keep.length ≤ n
          rw [ha]; exact h
        · rw [ha]; exact h
    · split
      · unfold DevS.off
        split
        · exact h
        · exact h
      · split
        · exact h
        · split
          · exact hk
          · exact h
/-- Rows of bytes that the document's copy keeps, in blocks from base on. -/
def KeptAt (base : Nat) (w : World) (k : Nat) (bss : List (List UInt8)) : Prop :=
  ∃ vE x1 x2 x3 x4 ls, w.heap[k]? = some (.cells #[vE, x1, x2, x3, x4] 45 (0, 0)) ∧ base ≤ k ∧ w.ownsRow base 22 1 vE ls.length ls ∧ ls.length = bss.length ∧
    ∀ (i : Nat) (v : Value) (b : List UInt8), ls[i]? = some v → bss[i]? = some b → w.ownsRow base 5 1 v b.length (b.map B)
theorem KeptAt.move {base : Nat} {w w' : World} {k : Nat} {bss : List (List UInt8)} (h : KeptAt base w k bss) (hm : ∀ g, base ≤ g → g < w.heap.size → w'.heap[g]? = w.heap[g]?) : KeptAt base w' k bss := by
  obtain ⟨vE, x1, x2, x3, x4, ls, h1, h2, h3, h4, h5⟩ := h
  exact ⟨vE, x1, x2, x3, x4, ls, (hm k h2 (lt_of_block h1)).trans h1, h2, owns_same h3 (fun g hg => hm g (owns_block h3 hg).1 (owns_block h3 hg).2.1), h4,
    fun i v b h6 h7 => owns_same (h5 i v b h6 h7) (fun g hg => hm g (owns_block (h5 i v b h6 h7) hg).1 (owns_block (h5 i v b h6 h7) hg).2.1)⟩
theorem KeptAt.new {base : Nat} {w w' : World} {k : Nat} {bss : List (List UInt8)} (h : KeptAt base w k bss) (c : New w w') : KeptAt base w' k bss := h.move fun g _ hg => c.block g hg (fun e => e)
end Go.Proofs.Ytjlmbmamkhneiaa
