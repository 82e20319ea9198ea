/- The walk of a device's Write. -/
import Derived.Test.YtjlmbmamkhneiaaFold
import Derived.Deep.RegionLaw
import Derived.Deep.AppendLies
namespace Go.Proofs.Ytjlmbmamkhneiaa
open Go Go.RowKit
set_option linter.unusedVariables false
attribute [local go_sem ↓] load90_fold load92_fold store90_fold store92_fold alloc90_fold alloc92_fold build92_fold bslice85_fold
theorem push_new {S : Nat → Prop} {w3 w4 : World} {d g gg cap : Nat} {vP vK : Value} {D : DevS} (h : DevIs S w3 d g vP vK D) (p : Nat × List UInt8) (hp : p.1 < D.lasts.length ∧ p.2.length = 64) (hroom : D.pend.length < 1048576) (o : Obj)
    (hown : w4.ownsRow 0 92 65 (.slice (some ⟨gg, 0, none⟩) (D.pend.length + 1) cap) (D.pend.length + 1) ((D.pend.map writeV).flatten ++ writeV p)) (hg : ((w3.alloc o).drew).grownBy w4 vP.ownBlock) (hat : vP.ownBlock = some gg ∨ gg = w3.heap.size + 1)
    (hS : ∀ k, w3.heap.size ≤ k → S k) :
    DevIs S (w4.setCell ⟨d, 1, none⟩ (.slice (some ⟨gg, 0, none⟩) (D.pend.length + 1) cap)) d g (.slice (some ⟨gg, 0, none⟩) (D.pend.length + 1) cap) vK { D with pend := D.pend ++ [p] } ∧
      Chg (Mut S pts w3) w3 (w4.setCell ⟨d, 1, none⟩ (.slice (some ⟨gg, 0, none⟩) (D.pend.length + 1) cap)) := by
  have c1 : Chg (Mut S pts w3) w3 w4 := ((Chg.refl _ w3).alloc o).drew.grown hg (fun k hk _ => by
    obtain ⟨_, _, c, hc⟩ := owns_block h.pend hk
    exact .of (h.sp k hk) hc (by simp))
  have old : ∀ k, k < w3.heap.size → vP.ownBlock ≠ some k → w4.heap[k]? = w3.heap[k]? := fun k hk hn =>
    (hg.block k (by simp [World.drew]; omega) (fun e => hn e.symm)).trans (Below.heap_alloc w3 o k hk)
  have ld := lt_of_block h.dev
  have ed := old d ld (fun e => (h.nep d e).1 rfl)
  have h4 : DevIs S w4 d g vP vK D → False ∨ True := fun _ => .inr trivial
  have e1 := heap_setCell_same w4 d 1 _ 87 (.slice (some ⟨gg, 0, none⟩) (D.pend.length + 1) cap) (ed.trans h.dev)
  have ne : gg ≠ d := by
    rcases hat with e | e
    · exact (h.nep gg e).1
    · omega
  refine ⟨⟨e1, ?_, ?_, ?_, h.sd, h.sg, ?_, ⟨h.ok.cell, ?_, h.ok.most, h.ok.fuse, by simp; omega⟩⟩, h.set c1 1 _⟩
  · rw [heap_setCell_other _ _ _ _ (show g ≠ d from h.ne.symm)]
    exact (old g (lt_of_block h.lasts) (fun e => (h.nep g e).2 rfl)).trans h.lasts
  · have e : (List.map writeV (D.pend ++ [p])).flatten = (D.pend.map writeV).flatten ++ writeV p := by simp
    have e2 : (List.map writeV (D.pend ++ [p])).length = D.pend.length + 1 := by simp
    rw [show ({ D with pend := D.pend ++ [p] } : DevS).pend = D.pend ++ [p] from rfl, e, e2]
    exact owns_same hown (fun k hk => heap_setCell_other _ _ _ _ (by cases hk; exact ne))
  · refine owns_same h.keep (fun k hk => ?_)
    obtain ⟨n1, n2, n3⟩ := h.nek k hk
    rw [heap_setCell_other _ _ _ _ (show k ≠ d from n1)]
    exact old k (owns_block h.keep hk).2.1 n3
  · intro k hk
    cases hk
    rcases hat with e | e
    · exact h.sp _ e
    · exact hS _ (by show w3.heap.size ≤ gg; omega)
  · intro q hq
    rcases List.mem_append.1 hq with hq | hq
    · exact h.ok.pend q hq
    · rw [List.mem_singleton.1 hq]; exact hp
def pad (b : List UInt8) : List UInt8 := b ++ List.replicate (64 - b.length) 0
theorem pad_len {b : List UInt8} (h : b.length ≤ 64) : (pad b).length = 64 := by simp [pad]; omega
theorem splice_pad (i : Nat) (b : List UInt8) (h : b.length ≤ 64) : splice (writeV (i, blank)) 1 (b.map B) = writeV (i, pad b) := by
  simp only [splice, writeV, blank, pad, List.take_succ_cons, List.take_zero, List.length_map, List.map_append, List.map_replicate]
  rw [Nat.add_comm 1, List.drop_succ_cons, List.drop_replicate]
  simp
def DevS.push (D : DevS) (i : Nat) (b : List UInt8) : DevS := { D with pend := D.pend ++ [(i, pad b)] }
def DevS.write (D : DevS) (i : Int) (b : List UInt8) : DevS × Int :=
  if D.ready i ≠ 0 then (D, D.ready i) else if 64 < b.length then (D, 6) else if D.act.2 = true then (D.act.1.push i.toNat b, 0) else (D.act.1, 9)
end Go.Proofs.Ytjlmbmamkhneiaa
