/- Slices whose elements have several cells: what one reads; append to a row of one's own. -/
import Derived.Test.YtjlmbmamkhneiaaBlk
import Derived.Laws.OwnMore
import Derived.ArgAppend
namespace Go.Proofs.Ytjlmbmamkhneiaa
open Go Go.RowKit
set_option linter.unusedVariables false
/-- 'xs' are the cells that a slice of n elements reads. -/
def RdG (w : World) (v : Value) (n : Nat) (xs : List Value) : Prop :=
  ∃ a c, v = .slice a n c ∧ n ≤ c ∧ c ≤ maxLen ∧ ∀ j u, xs[j]? = some u → ∃ g off, a = some ⟨g, off, none⟩ ∧ w.cell? ⟨g, off + j, none⟩ = some u
theorem RdG.of_owns {w : World} {v : Value} {base n size : Nat} {e : TypeId} {xs : List Value} (h : w.ownsRow base e size v n xs) : RdG w v n xs := by
  rcases h.2 with ⟨rfl, hn⟩ | ⟨g, cap, cur, rfl, hbg, hg, hnc, hcm, hcs, htake⟩
  · have : xs = [] := List.length_eq_zero_iff.1 (by rw [h.1, hn]; simp)
    rw [this, hn]
    exact ⟨none, 0, rfl, Nat.le_refl _, by simp [maxLen], fun j u h => by simp at h⟩
  · refine ⟨some ⟨g, 0, none⟩, cap, rfl, hnc, hcm, fun j u hu => ⟨g, 0, rfl, ?_⟩⟩
    rw [cell_of_row w g _ cur e (0, 0) hg, Nat.zero_add]
    have : (cur.toList.take (n * size))[j]? = some u := by rw [htake]; exact hu
    rw [List.getElem?_take] at this
    split at this
    · simpa using this
    · cases this
theorem RdG.move {w w' : World} {v : Value} {n : Nat} {xs : List Value} (h : RdG w v n xs) (hm : ∀ g, v.ownBlock = some g → g < w.heap.size → w'.heap[g]? = w.heap[g]?) : RdG w' v n xs := by
  obtain ⟨a, c, rfl, h1, h2, h3⟩ := h
  refine ⟨a, c, rfl, h1, h2, fun j u hu => ?_⟩
  obtain ⟨g, off, rfl, hc⟩ := h3 j u hu
  exact ⟨g, off, rfl, (World.cell?_of_block (hm g rfl (lt_of_cell hc))).trans hc⟩
theorem RdG.new {w w' : World} {v : Value} {n : Nat} {xs : List Value} (h : RdG w v n xs) (c : New w w') : RdG w' v n xs := h.move fun g _ hg => c.block g hg (fun e => e)
theorem RdG.alloc {w : World} {v : Value} {n : Nat} {xs : List Value} (h : RdG w v n xs) (o : Obj) : RdG (w.alloc o) v n xs := h.move fun g _ hg => Below.heap_alloc w o g hg
/-- One element that lies in a block of its own. -/
theorem RdG.one (w : World) (us : List Value) (t : TypeId) : RdG (w.alloc (.cells us.toArray t)) (.slice (some ⟨w.heap.size, 0, none⟩) 1 1) 1 us :=
  ⟨_, _, rfl, Nat.le_refl _, by simp [maxLen], fun j u hu => ⟨_, _, rfl, by rw [cell_of_row _ _ _ _ _ _ (heap_alloc_new w _), Nat.zero_add]; simpa using hu⟩⟩
structure GroupTy (P : Program) (t e : TypeId) (size by_ : Nat) : Prop where
  under : P.underlying t = some (.slice e)
  info : ∃ i z, P.info? e = some i ∧ i.zero = some z ∧ i.size = size ∧ i.bytes = by_ ∧ z.cells.size = size
  pos : 0 < size
theorem run_append_rdG {P : Program} {w : World} {t ty e : TypeId} {size by_ : Nat} (T : GroupTy P t e size by_) {base n m : Nat} {v : Value} {l : List Value} (hown : w.ownsRow base e size v n l)
    {x : Value} {xs : List Value} (hx : RdG w x m xs) (hxl : xs.length = m * size) (h1 : ∀ u ∈ xs, u.oneCell' = true) (hlen : (n + m) * by_ ≤ 140737488355328) (hlm : n + m ≤ maxLen) (hbase : base ≤ w.heap.size) :
    ∃ v' w', (Builtin.append_ #[t, t] ty #[v, x]).run P w = .ok v' w' ∧ w'.ownsRow base e size v' (n + m) (l ++ xs) ∧ w.grownBy w' v.ownBlock := by
  obtain ⟨i, z, hi, hiz, his, hib, hz⟩ := T.info
  have hsz := T.pos
  obtain ⟨a, c, rfl, _, _, hc⟩ := hx
  by_cases hxs : xs = []
  · subst hxs
    have hm0 : m = 0 := by
      have h0 : m * size = 0 := hxl.symm
      rcases Nat.mul_eq_zero.1 h0 with h | h
      · exact h
      · omega
    subst hm0
    obtain ⟨v', w', hr, ho, hg, _⟩ := run_append_own (P := P) w base t ty e i z size by_ T.under hi hiz his hib hz hsz v n l hown (a.getD ⟨0, 0, none⟩) 0 c [] (by simp) (fun j u h => by simp at h) (by simp) hlm hlen hbase
    cases a with
    | none =>
      refine ⟨v', w', ?_, ho, hg⟩
      rw [← hr]
      rcases hown.2 with ⟨rfl, hn⟩ | ⟨g, cap, cur, rfl, hbg, hgg, hnc, hcm, hcs, htake⟩ <;>
        simp [Builtin.append_, run_underlying T.under, sizeOf, typeInfo, Builtin.lenOf, Builtin.firstCells, loadCells, loadCellsFrom, *]
    | some a => exact ⟨v', w', hr, ho, hg⟩
  · obtain ⟨x0, xs0, hx0⟩ := List.exists_cons_of_ne_nil hxs
    obtain ⟨g, off, rfl, _⟩ := hc 0 x0 (by rw [hx0]; rfl)
    obtain ⟨v', w', hr, ho, hg, _⟩ := run_append_own (P := P) w base t ty e i z size by_ T.under hi hiz his hib hz hsz v n l hown ⟨g, off, none⟩ m c xs hxl
      (fun j u hu => by
        obtain ⟨g', off', hh, hcell⟩ := hc j u hu
        simp only [Option.some.injEq, Addr.mk.injEq, and_true] at hh
        obtain ⟨rfl, rfl⟩ := hh
        rw [Addr.add_lit]; exact hcell) h1 hlm hlen hbase
    exact ⟨v', w', hr, ho, hg⟩
theorem wpl_appendG {P : Program} {ops : Array Oper} {rest : List Oper} {o : Oper} {a : Act} {w : World} {Q : Exit → Act → World → Prop} (hgd : o.guard = none) (s x : Operand) (t : TypeId)
    (ho : o.op = .call { callee := .builtin .append, args := #[s, x], argTypes := #[t, t] }) {e : TypeId} {size by_ : Nat} (T : GroupTy P t e size by_) (base n m : Nat) (v : Value) (l : List Value) (hs : a.eval s = v)
    (hown : w.ownsRow base e size v n l) (xv : Value) (hxv : a.eval x = xv) (xs : List Value) (hr : RdG w xv m xs) (hxl : xs.length = m * size) (h1 : ∀ u ∈ xs, u.oneCell' = true) (hlen : (n + m) * by_ ≤ 140737488355328) (hlm : n + m ≤ maxLen) (hbase : base ≤ w.heap.size)
    (h : ∀ v' w', w'.ownsRow base e size v' (n + m) (l ++ xs) → w.grownBy w' v.ownBlock → wpList P ops Q rest (a.put o.dst v') w') : wpList P ops Q (o :: rest) a w := by
  obtain ⟨v', w', hrun, h1, h2⟩ := run_append_rdG (P := P) (ty := o.type) T hown hr hxl h1 hlen hlm hbase
  exact Lib.wpList_append_run w hgd s x t t ho v xv hs hxv v' w' hrun (h v' w' h1 h2)
theorem step_appendG {P : Program} {ops : Array Oper} {o : Oper} {a : Act} {w : World} {K : Act → World → Prop} {Q : Exit → Act → World → Prop} {E : Prop} (hgd : o.guard = none) (s x : Operand) (t : TypeId)
    (ho : o.op = .call { callee := .builtin .append, args := #[s, x], argTypes := #[t, t] }) {e : TypeId} {size by_ : Nat} (T : GroupTy P t e size by_) (base n m : Nat) (v : Value) (l : List Value) (hs : a.eval s = v)
    (hown : w.ownsRow base e size v n l) (xv : Value) (hxv : a.eval x = xv) (xs : List Value) (hr : RdG w xv m xs) (hxl : xs.length = m * size) (h1 : ∀ u ∈ xs, u.oneCell' = true) (hlen : (n + m) * by_ ≤ 140737488355328) (hlm : n + m ≤ maxLen) (hbase : base ≤ w.heap.size)
    (h : ∀ v' w', w'.ownsRow base e size v' (n + m) (l ++ xs) → w.grownBy w' v.ownBlock → K (a.put o.dst v') w') :
    if Region.wanted o (yielded ops a.tmps) = true then Oper.wp P o a w K Q else E := by
  have hw : Region.wanted o (yielded ops a.tmps) = true := by simp [Region.wanted, hgd]
  rw [if_pos hw]
  obtain ⟨v', w', hrun, h1, h2⟩ := run_append_rdG (P := P) (ty := o.type) T hown hr hxl h1 hlen hlm hbase
  unfold Oper.wp
  simp only [execOp, ho, resolve, invoke, builtin, hs, hxv, hrun, Result.andThen, Sem.run_bind, Sem.run_pure, List.map_toArray, List.map_cons, List.map_nil]
  exact h v' w' h1 h2
/-- append to an empty slice that has no room: of its block nothing is asked. -/
theorem run_append_fresh {P : Program} {w : World} {t ty e : TypeId} {size by_ : Nat} (T : GroupTy P t e size by_) {m : Nat} (b : Addr)
    {x : Value} {xs : List Value} (hx : RdG w x m xs) (hxl : xs.length = m * size) (hlen : m * by_ ≤ 140737488355328) (hlm : m ≤ maxLen) :
    ∃ ra rc w', (Builtin.append_ #[t, t] ty #[.slice (some b) 0 0, x]).run P w = .ok (.slice ra m rc) w' ∧ New w w' ∧ (xs ≠ [] → w'.ownsRow w.heap.size e size (.slice ra m rc) m xs) := by
  obtain ⟨i, z, hi, hiz, his, hib, hz⟩ := T.info
  have hsz := T.pos
  obtain ⟨a, c, rfl, _, _, hc⟩ := hx
  by_cases hxs : xs = []
  · subst hxs
    have hm0 : m = 0 := by
      have h0 : m * size = 0 := hxl.symm
      rcases Nat.mul_eq_zero.1 h0 with h | h
      · exact h
      · omega
    subst hm0
    refine ⟨some b, 0, w, ?_, Chg.refl _ _, fun h => absurd rfl h⟩
    cases a <;> simp [Builtin.append_, run_underlying T.under, sizeOf, typeInfo, Builtin.lenOf, Builtin.firstCells, loadCells, loadCellsFrom, storeCells, hi, *]
  · obtain ⟨x0, xs0, hx0⟩ := List.exists_cons_of_ne_nil hxs
    obtain ⟨g, off, rfl, _⟩ := hc 0 x0 (by rw [hx0]; rfl)
    have hm0 : 0 < m := by
      rcases Nat.eq_zero_or_pos m with h | h
      · subst h; rw [hx0] at hxl; simp at hxl
      · exact h
    obtain ⟨v', w', hr, ho, hg⟩ := run_append_arg_grows (P := P) w t ty e i z size by_ T.under hi hiz his hib hz hsz b 0 0 [] (by simp) (fun j u h => by simp at h) ⟨g, off, none⟩ m c xs hxl
      (fun j u hu => by
        obtain ⟨g', off', hh, hcell⟩ := hc j u hu
        simp only [Option.some.injEq, Addr.mk.injEq, and_true] at hh
        obtain ⟨rfl, rfl⟩ := hh
        rw [Addr.add_lit]; exact hcell) (by omega) (by simpa using hlm) (by simpa using hlen)
    rw [List.nil_append, Nat.zero_add] at ho
    obtain ⟨ra, rc, rfl, _, _⟩ := owns_shape ho
    exact ⟨ra, rc, w', hr, ⟨hg.os, hg.tape, hg.output, hg.size, fun k hk _ => hg.block k hk (by simp)⟩, fun _ => ho⟩
theorem step_append_fresh {P : Program} {ops : Array Oper} {o : Oper} {a : Act} {w : World} {K : Act → World → Prop} {Q : Exit → Act → World → Prop} {E : Prop} (hgd : o.guard = none) (s x : Operand) (t : TypeId)
    (ho : o.op = .call { callee := .builtin .append, args := #[s, x], argTypes := #[t, t] }) {e : TypeId} {size by_ : Nat} (T : GroupTy P t e size by_) (m : Nat) (b : Addr) (hs : a.eval s = .slice (some b) 0 0)
    (xv : Value) (hxv : a.eval x = xv) (xs : List Value) (hr : RdG w xv m xs) (hxl : xs.length = m * size) (hlen : m * by_ ≤ 140737488355328) (hlm : m ≤ maxLen)
    (h : ∀ ra rc w', New w w' → (xs ≠ [] → w'.ownsRow w.heap.size e size (.slice ra m rc) m xs) → K (a.put o.dst (.slice ra m rc)) w') :
    if Region.wanted o (yielded ops a.tmps) = true then Oper.wp P o a w K Q else E := by
  have hw : Region.wanted o (yielded ops a.tmps) = true := by simp [Region.wanted, hgd]
  rw [if_pos hw]
  obtain ⟨ra, rc, w', hrun, h1, h2⟩ := run_append_fresh (P := P) (ty := o.type) T b hr hxl hlen hlm
  unfold Oper.wp
  simp only [execOp, ho, resolve, invoke, builtin, hs, hxv, hrun, Result.andThen, Sem.run_bind, Sem.run_pure, List.map_toArray, List.map_cons, List.map_nil]
  exact h ra rc w' h1 h2
theorem wpl_append_fresh {P : Program} {ops : Array Oper} {rest : List Oper} {o : Oper} {a : Act} {w : World} {Q : Exit → Act → World → Prop} (hgd : o.guard = none) (s x : Operand) (t : TypeId)
    (ho : o.op = .call { callee := .builtin .append, args := #[s, x], argTypes := #[t, t] }) {e : TypeId} {size by_ : Nat} (T : GroupTy P t e size by_) (m : Nat) (b : Addr) (hs : a.eval s = .slice (some b) 0 0)
    (xv : Value) (hxv : a.eval x = xv) (xs : List Value) (hr : RdG w xv m xs) (hxl : xs.length = m * size) (hlen : m * by_ ≤ 140737488355328) (hlm : m ≤ maxLen)
    (h : ∀ ra rc w', New w w' → (xs ≠ [] → w'.ownsRow w.heap.size e size (.slice ra m rc) m xs) → wpList P ops Q rest (a.put o.dst (.slice ra m rc)) w') : wpList P ops Q (o :: rest) a w := by
  obtain ⟨ra, rc, w', hrun, h1, h2⟩ := run_append_fresh (P := P) (ty := o.type) T b hr hxl hlen hlm
  exact Lib.wpList_append_run w hgd s x t t ho _ xv hs hxv _ w' hrun (h ra rc w' h1 h2)
/-- An empty row in a block of its own. -/
theorem own_none {w : World} {g base size : Nat} {e : TypeId} (h : w.heap[g]? = some (.cells #[] e (0, 0))) (hb : base ≤ g) : w.ownsRow base e size (.slice (some ⟨g, 0, none⟩) 0 0) 0 [] :=
  ⟨by simp, .inr ⟨g, 0, #[], rfl, hb, h, Nat.le_refl _, by simp [maxLen], by simp, by simp⟩⟩
theorem flat_set {n : Nat} : ∀ (L : List (List Value)), (∀ x ∈ L, x.length = n) → ∀ (k j : Nat) (u : Value) (x : List Value), L[k]? = some x → j < n → L.flatten.set (k * n + j) u = (L.set k (x.set j u)).flatten
  | [], _, k, j, u, x, h, _ => by simp at h
  | y :: L, hl, 0, j, u, x, h, hj => by
    simp at h
    subst h
    have := hl y List.mem_cons_self
    simp only [List.flatten_cons, Nat.zero_mul, Nat.zero_add, List.set_cons_zero]
    rw [List.set_append_left _ _ (by omega)]
  | y :: L, hl, k + 1, j, u, x, h, hj => by
    have hy := hl y List.mem_cons_self
    simp only [List.getElem?_cons_succ] at h
    simp only [List.flatten_cons, List.set_cons_succ]
    rw [List.set_append_right _ _ (by rw [hy, Nat.add_mul]; omega)]
    rw [show (k + 1) * n + j - y.length = k * n + j by rw [hy, Nat.add_mul]; omega]
    rw [flat_set L (fun z hz => hl z (List.mem_cons_of_mem _ hz)) k j u x h hj]
end Go.Proofs.Ytjlmbmamkhneiaa
