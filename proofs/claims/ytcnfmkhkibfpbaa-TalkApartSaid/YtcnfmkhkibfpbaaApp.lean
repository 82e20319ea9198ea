/- Laws on append for slices of bytes that read as lists. -/
import Derived.Test.YtcnfmkhkibfpbaaMem
import Derived.Lib.AppendZeros
namespace Go.Proofs.Ytcnfmkhkibfpbaa
open Go Go.RowKit
/-- What is asked of the program's types: 't' is '[]e', of elements of one cell, 'by' bytes each, with zero value z. -/
structure SliceTy (P : Program) (t e : TypeId) (z : Value) (by_ : Nat) : Prop where
  under : P.underlying t = some (.slice e)
  info : ∃ i, P.info? e = some i ∧ i.zero = some z ∧ i.size = 1 ∧ i.bytes = by_
/-- 'xs' are the cells that a slice of one-celled elements reads. -/
def RdV (w : World) (v : Value) (xs : List Value) : Prop :=
  ∃ a c, v = .slice a xs.length c ∧ ∀ j u, xs[j]? = some u → ∃ g off, a = some ⟨g, off, none⟩ ∧ w.cell? ⟨g, off + j, none⟩ = some u
theorem Rd.rdV {w : World} {v : Value} {bs : List UInt8} (h : Rd w v bs) : RdV w v (bs.map B) := by
  obtain ⟨a, c, rfl, _, _, h3⟩ := h
  refine ⟨a, c, by rw [List.length_map], fun j u hu => ?_⟩
  rw [List.getElem?_map, Option.map_eq_some_iff] at hu
  obtain ⟨x, hx, rfl⟩ := hu
  exact h3 j x hx
theorem run_append_rdV {P : Program} {w : World} {t ty e : TypeId} {z : Value} {by_ : Nat} (T : SliceTy P t e z by_) (hz : z.cells.size = 1) {base : Nat} {v : Value} {l : List Value} (hown : w.ownsRow base e 1 v l.length l)
    {x : Value} {xs : List Value} (hx : RdV w x xs) (h1 : ∀ u ∈ xs, u.oneCell' = true) (hlen : (l.length + xs.length) * by_ ≤ 140737488355328) (hlm : l.length + xs.length ≤ maxLen) (hbase : base ≤ w.heap.size) :
    ∃ v' w', (Builtin.append_ #[t, t] ty #[v, x]).run P w = .ok v' w' ∧ w'.ownsRow base e 1 v' (l ++ xs).length (l ++ xs) ∧ w.grownBy w' v.ownBlock := by
  obtain ⟨i, hi, hiz, his, hib⟩ := T.info
  obtain ⟨a, c, rfl, hc⟩ := hx
  by_cases hxs : xs = []
  · subst hxs
    obtain ⟨v', w', hr, ho, hg, _⟩ := run_append_own (P := P) w base t ty e i z 1 by_ T.under hi hiz his hib hz (by decide) v l.length l hown (a.getD ⟨0, 0, none⟩) 0 c [] rfl (fun j u h => by simp at h) (by simp) (by simpa using hlm) (by simpa using hlen) hbase
    cases a with
    | none =>
      refine ⟨v', w', ?_, by simpa using ho, hg⟩
      rw [← hr]
      rcases hown.2 with ⟨rfl, hn⟩ | ⟨g, cap, cur, rfl, hbg, hgg, hnc, hcm, hcs, htake⟩ <;>
        simp [Builtin.append_, run_underlying T.under, sizeOf, typeInfo, Builtin.lenOf, Builtin.firstCells, loadCells, loadCellsFrom, *]
    | some a => exact ⟨v', w', hr, by simpa using ho, hg⟩
  · obtain ⟨x0, xs0, hx0⟩ := List.exists_cons_of_ne_nil hxs
    obtain ⟨g, off, rfl, _⟩ := hc 0 x0 (by rw [hx0]; rfl)
    obtain ⟨v', w', hr, ho, hg, _⟩ := run_append_own (P := P) w base t ty e i z 1 by_ T.under hi hiz his hib hz (by decide) v l.length l hown ⟨g, off, none⟩ xs.length c xs (by omega)
      (fun j u hu => by
        obtain ⟨g', off', hh, hcell⟩ := hc j u hu
        simp only [Option.some.injEq, Addr.mk.injEq, and_true] at hh
        obtain ⟨rfl, rfl⟩ := hh
        rw [Addr.add_lit]; exact hcell) h1 hlm hlen hbase
    exact ⟨v', w', hr, by simpa using ho, hg⟩
theorem wpl_append_bytes {P : Program} {ops : Array Oper} {rest : List Oper} {o : Oper} {a : Act} {w : World} {Q : Exit → Act → World → Prop} (hgd : o.guard = none) (s x : Operand) (t : TypeId)
    (ho : o.op = .call { callee := .builtin .append, args := #[s, x], argTypes := #[t, t] }) {e : TypeId} (T : SliceTy P t e (.int .u8 0) 1) (base : Nat) (v : Value) (l : List UInt8) (hs : a.eval s = v)
    (hown : w.ownsRow base e 1 v l.length (l.map B)) (xv : Value) (hxv : a.eval x = xv) (bs : List UInt8) (hr : Rd w xv bs) (hlen : l.length + bs.length ≤ 1099511627776) (hbase : base ≤ w.heap.size)
    (h : ∀ v' w', w'.ownsRow base e 1 v' (l ++ bs).length ((l ++ bs).map B) → w.grownBy w' v.ownBlock → wpList P ops Q rest (a.put o.dst v') w') : wpList P ops Q (o :: rest) a w := by
  have hown' : w.ownsRow base e 1 v (l.map B).length (l.map B) := by rw [List.length_map]; exact hown
  have hl1 : (l.map B).length + (bs.map B).length = l.length + bs.length := by rw [List.length_map, List.length_map]
  obtain ⟨v', w', hrun, h1, h2⟩ := run_append_rdV (P := P) (ty := o.type) T rfl hown' hr.rdV (fun u hu => by
    obtain ⟨_, _, rfl⟩ := List.mem_map.1 hu; rfl) (by rw [hl1]; omega) (by rw [hl1]; unfold maxLen; omega) hbase
  rw [← List.map_append, List.length_map] at h1
  exact Lib.wpList_append_run w hgd s x t t ho v xv hs hxv v' w' hrun (h v' w' h1 h2)
theorem below_grown {base : Nat} {w0 w w' : World} {v : Value} {e n : Nat} {xs : List Value} (hb : Below base w0 w) (ho : w.ownsRow base e 1 v n xs) (hg : w.grownBy w' v.ownBlock) (hbase : base ≤ w.heap.size) : Below base w0 w' :=
  hb.grown hg hbase (fun k hk => (ho.lt k hk).1)
end Go.Proofs.Ytcnfmkhkibfpbaa
