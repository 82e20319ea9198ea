/- Small words on memory that the walks of this seat share: what a piece of the run may have changed; slices that read as lists. -/
import Derived.WalkKit
import Derived.WalkSpells
import Derived.WalkLawsBesides
import Derived.StillTailTactics
import Derived.BigQuiet
import Derived.Deep.QuietTactic
import Derived.Lib.AppendZeros
namespace Go.Proofs.Ytjlmbmamkhneiaa
open Go Go.RowKit

theorem hid {p : Prop} (h : p) : Hid p := h
theorem vi {k : IntKind} {a b : Int} (h : a = b) : Value.int k a = .int k b := by rw [h]
theorem vb {a b : Bool} (h : a = b) : Value.bool a = .bool b := by rw [h]
theorem vr {v u : Value} (h : v = u) : Ending.returned v = .returned u := by rw [h]
theorem take_snoc {α : Type} {l : List α} {k : Nat} (h : k < l.length) : l.take (k + 1) = l.take k ++ [l[k]] := by
  rw [List.take_succ_eq_append_getElem h]
abbrev B (u : UInt8) : Value := .int .u8 (u.toNat : Int)
abbrev I (n : Int) : Value := .int .i64 n

/-- Of the blocks that there are those of S alone may have changed. -/
structure Chg (S : Nat → Prop) (w w' : World) : Prop where
  os : w'.os = w.os
  tape : w'.tape = w.tape
  output : w'.output = w.output
  size : w.heap.size ≤ w'.heap.size
  block : ∀ k, k < w.heap.size → ¬ S k → w'.heap[k]? = w.heap[k]?
namespace Chg
variable {S T : Nat → Prop} {w w1 w2 : World}
theorem refl (S : Nat → Prop) (w : World) : Chg S w w := ⟨rfl, rfl, rfl, Nat.le_refl _, fun _ _ _ => rfl⟩
theorem mono (h : Chg S w w1) (hs : ∀ k, k < w.heap.size → S k → T k) : Chg T w w1 := ⟨h.os, h.tape, h.output, h.size, fun k hk ht => h.block k hk (fun e => ht (hs k hk e))⟩
theorem trans (h : Chg S w w1) (k : Chg T w1 w2) (hs : ∀ i, i < w.heap.size → T i → S i) : Chg S w w2 :=
  ⟨k.os.trans h.os, k.tape.trans h.tape, k.output.trans h.output, Nat.le_trans h.size k.size,
    fun i hi hn => (k.block i (Nat.lt_of_lt_of_le hi h.size) (fun e => hn (hs i hi e))).trans (h.block i hi hn)⟩
theorem drew (h : Chg S w w1) : Chg S w w1.drew := ⟨h.os, h.tape, h.output, h.size, h.block⟩
theorem drewN (h : Chg S w w1) (n : Nat) : Chg S w (w1.drewN n) := ⟨h.os, h.tape, h.output, h.size, h.block⟩
theorem alloc (h : Chg S w w1) (o : Obj) : Chg S w (w1.alloc o) :=
  h.trans (T := fun _ => False) ⟨rfl, rfl, rfl, by simp, fun k hk _ => Below.heap_alloc w1 o k hk⟩ (fun _ _ e => e.elim)
theorem setCell (h : Chg S w w1) {p : Addr} (hp : p.block < w.heap.size → S p.block) (u : Value) : Chg S w (w1.setCell p u) :=
  h.trans (T := fun k => k = p.block) ⟨rfl, rfl, rfl, by simp [World.setCell], fun k _ hk => Below.heap_setCell w1 p u k hk⟩ (fun i hi e => e ▸ hp (e ▸ hi))
theorem grown (h : Chg S w w1) {r : Option Nat} (hg : w1.grownBy w2 r) (hr : ∀ k, r = some k → k < w.heap.size → S k) : Chg S w w2 :=
  h.trans (T := fun k => some k = r) ⟨hg.os, hg.tape, hg.output, hg.size, fun k hk hn => hg.block k hk hn⟩ (fun i hi e => hr i e.symm hi)
theorem setRow (h : Chg S w w1) {g : Nat} (hp : g < w.heap.size → S g) (cs : Array Value) : Chg S w (w1.setRow g cs) :=
  h.trans (T := fun k => k = g) ⟨rfl, rfl, rfl, by simp, fun k _ hk => setRow_other w1 g k cs hk⟩ (fun i hi e => e ▸ hp (e ▸ hi))
theorem below {B : Nat} (h : Chg S w w1) (hs : ∀ k, S k → B ≤ k) (hB : B ≤ w.heap.size) : Below B w w1 :=
  ⟨h.os, h.tape, h.output, h.size, fun k hk => h.block k (Nat.lt_of_lt_of_le hk hB) (fun e => by have := hs k e; omega)⟩
theorem of_below {B : Nat} (h : Below B w w1) : Chg (fun k => B ≤ k) w w1 := ⟨h.os, h.tape, h.output, h.size, fun k _ hn => h.block k (Nat.lt_of_not_le hn)⟩
theorem cell (h : Chg S w w1) {g i : Nat} {u : Value} (hc : w.cell? ⟨g, i, none⟩ = some u) (hn : ¬ S g) : w1.cell? ⟨g, i, none⟩ = some u :=
  (World.cell?_of_block (h.block g (block_lt_of_cell hc) hn)).trans hc
end Chg
/-- New blocks alone. -/
def New (w w' : World) : Prop := Chg (fun _ => False) w w'
theorem lt_of_cell {w : World} {g i : Nat} {u : Value} (h : w.cell? ⟨g, i, none⟩ = some u) : g < w.heap.size := block_lt_of_cell h
theorem lt_of_block {w : World} {g : Nat} {o : Obj} (h : w.heap[g]? = some o) : g < w.heap.size := (Array.getElem?_eq_some_iff.1 h).1

/-- 'xs' are the cells that a slice of one-celled elements reads. -/
def RdV (w : World) (v : Value) (xs : List Value) : Prop :=
  ∃ a c, v = .slice a xs.length c ∧ xs.length ≤ c ∧ c ≤ maxLen ∧ ∀ j u, xs[j]? = some u → ∃ g off, a = some ⟨g, off, none⟩ ∧ w.cell? ⟨g, off + j, none⟩ = some u
/-- .. bytes, whole numbers -/
def Rd (w : World) (v : Value) (bs : List UInt8) : Prop := RdV w v (bs.map B)
def RdI (w : World) (v : Value) (zs : List Int) : Prop := RdV w v (zs.map I)
section
variable {w w' : World} {v : Value} {xs : List Value}
theorem RdV.move (h : RdV w v xs) (hm : ∀ g, v.ownBlock = some g → g < w.heap.size → w'.heap[g]? = w.heap[g]?) : RdV w' v xs := by
  obtain ⟨a, c, rfl, h1, h2, h3⟩ := h
  refine ⟨a, c, rfl, h1, h2, fun j u hu => ?_⟩
  obtain ⟨g, off, rfl, hc⟩ := h3 j u hu
  exact ⟨g, off, rfl, (World.cell?_of_block (hm g rfl (lt_of_cell hc))).trans hc⟩
theorem RdV.chg {S : Nat → Prop} (h : RdV w v xs) (hb : Chg S w w') (hn : ∀ g, v.ownBlock = some g → g < w.heap.size → ¬ S g) : RdV w' v xs := h.move fun g hg hlt => hb.block g hlt (hn g hg hlt)
theorem RdV.new (h : RdV w v xs) (hb : New w w') : RdV w' v xs := h.chg hb (fun _ _ _ e => e)
theorem RdV.below (h : RdV w v xs) (hb : Below w.heap.size w w') : RdV w' v xs := h.move fun g _ hg => hb.block g hg
theorem RdV.drew (h : RdV w v xs) : RdV w.drew v xs := h.move fun _ _ _ => rfl
theorem RdV.alloc (h : RdV w v xs) (o : Obj) : RdV (w.alloc o) v xs := h.move fun g _ hg => Below.heap_alloc w o g hg
theorem RdV.nil (w : World) : RdV w (.slice none 0 0) [] := ⟨none, 0, rfl, Nat.le_refl _, by simp [maxLen], fun j u h => by simp at h⟩
theorem RdV.shape (h : RdV w v xs) : ∃ a c, v = .slice a xs.length c := by obtain ⟨a, c, rfl, _⟩ := h; exact ⟨a, c, rfl⟩
theorem RdV.of_owns {base : Nat} {e : TypeId} (h : w.ownsRow base e 1 v xs.length xs) : RdV w v xs := by
  rcases h.2 with ⟨rfl, hn⟩ | ⟨g, cap, cur, rfl, hbg, hg, hnc, hcm, hcs, htake⟩
  · rw [List.length_eq_zero_iff.1 hn]; exact RdV.nil w
  · refine ⟨some ⟨g, 0, none⟩, cap, rfl, hnc, hcm, fun j u hu => ⟨g, 0, rfl, ?_⟩⟩
    rw [cell_of_row w g _ cur e (0, 0) hg, Nat.zero_add]
    have : (cur.toList.take (xs.length * 1))[j]? = some u := by rw [htake]; exact hu
    rw [List.getElem?_take] at this
    split at this
    · simpa using this
    · cases this
end
/-- What is asked of the program's types: 't' is '[]e', of elements of one cell, 'by_' bytes each, with zero value z. -/
structure SliceTy (P : Program) (t e : TypeId) (z : Value) (by_ : Nat) : Prop where
  under : P.underlying t = some (.slice e)
  info : ∃ i, P.info? e = some i ∧ i.zero = some z ∧ i.size = 1 ∧ i.bytes = by_
theorem run_append_rdV {P : Program} {w : World} {t ty e : TypeId} {z : Value} {by_ : Nat} (T : SliceTy P t e z by_) (hz : z.cells.size = 1) {base : Nat} {v : Value} {l : List Value} (hown : w.ownsRow base e 1 v l.length l)
    {x : Value} {xs : List Value} (hx : RdV w x xs) (h1 : ∀ u ∈ xs, u.oneCell' = true) (hlen : (l.length + xs.length) * by_ ≤ 140737488355328) (hlm : l.length + xs.length ≤ maxLen) (hbase : base ≤ w.heap.size) :
    ∃ v' w', (Builtin.append_ #[t, t] ty #[v, x]).run P w = .ok v' w' ∧ w'.ownsRow base e 1 v' (l ++ xs).length (l ++ xs) ∧ w.grownBy w' v.ownBlock := by
  obtain ⟨i, hi, hiz, his, hib⟩ := T.info
  obtain ⟨a, c, rfl, _, _, hc⟩ := hx
  by_cases hxs : xs = []
  · subst hxs
    obtain ⟨v', w', hr, ho, hg, _⟩ := run_append_own (P := P) w base t ty e i z 1 by_ T.under hi hiz his hib hz (by decide) v l.length l hown (a.getD ⟨0, 0, none⟩) 0 c [] rfl (fun j u h => by simp at h) (by simp) (by simpa using hlm) (by simpa using hlen) hbase
    cases a with
    | none =>
      refine ⟨v', w', ?_, by simpa using ho, hg⟩
      rw [← hr]
      rcases hown.2 with ⟨rfl, hn⟩ | ⟨g, cap, cur, rfl, hbg, hgg, hnc, hcm, hcs, htake⟩ <;>
        simp [Builtin.append_, run_underlying T.under, sizeOf, typeInfo, Builtin.lenOf, Builtin.firstCells, loadCells, loadCellsFrom, *]
    | some a => exact ⟨v', w', hr, by simpa using ho, hg⟩
  · obtain ⟨x0, xs0, hx0⟩ := List.exists_cons_of_ne_nil hxs
    obtain ⟨g, off, rfl, _⟩ := hc 0 x0 (by rw [hx0]; rfl)
    obtain ⟨v', w', hr, ho, hg, _⟩ := run_append_own (P := P) w base t ty e i z 1 by_ T.under hi hiz his hib hz (by decide) v l.length l hown ⟨g, off, none⟩ xs.length c xs (by omega)
      (fun j u hu => by
        obtain ⟨g', off', hh, hcell⟩ := hc j u hu
        simp only [Option.some.injEq, Addr.mk.injEq, and_true] at hh
        obtain ⟨rfl, rfl⟩ := hh
        rw [Addr.add_lit]; exact hcell) h1 hlm hlen hbase
    exact ⟨v', w', hr, by simpa using ho, hg⟩
theorem wpl_append {P : Program} {ops : Array Oper} {rest : List Oper} {o : Oper} {a : Act} {w : World} {Q : Exit → Act → World → Prop} (hgd : o.guard = none) (s x : Operand) (t : TypeId)
    (ho : o.op = .call { callee := .builtin .append, args := #[s, x], argTypes := #[t, t] }) {e : TypeId} {z : Value} {by_ : Nat} (T : SliceTy P t e z by_) (hz : z.cells.size = 1) (base : Nat) (v : Value) (l : List Value) (hs : a.eval s = v)
    (hown : w.ownsRow base e 1 v l.length l) (xv : Value) (hxv : a.eval x = xv) (xs : List Value) (hr : RdV w xv xs) (h1 : ∀ u ∈ xs, u.oneCell' = true) (hlen : (l.length + xs.length) * by_ ≤ 140737488355328) (hlm : l.length + xs.length ≤ maxLen) (hbase : base ≤ w.heap.size)
    (h : ∀ v' w', w'.ownsRow base e 1 v' (l ++ xs).length (l ++ xs) → w.grownBy w' v.ownBlock → wpList P ops Q rest (a.put o.dst v') w') : wpList P ops Q (o :: rest) a w := by
  obtain ⟨v', w', hrun, h1, h2⟩ := run_append_rdV (P := P) (ty := o.type) T hz hown hr h1 hlen hlm hbase
  exact Lib.wpList_append_run w hgd s x t t ho v xv hs hxv v' w' hrun (h v' w' h1 h2)
end Go.Proofs.Ytjlmbmamkhneiaa
