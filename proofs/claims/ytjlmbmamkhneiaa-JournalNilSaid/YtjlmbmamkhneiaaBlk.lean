/- Rows of arrays: cells behind one another in groups of one size; what a piece of the run may have changed, told by the blocks' types. -/
import Derived.Test.YtjlmbmamkhneiaaMem
import Derived.Deep.MidRow
import Derived.Deep.WholeRow
import Derived.Laws.CopyOwn
namespace Go.Proofs.Ytjlmbmamkhneiaa
open Go Go.RowKit

section
variable {α : Type} {m : Nat}
theorem flat_len : ∀ {L : List (List α)}, (∀ x ∈ L, x.length = m) → L.flatten.length = L.length * m
  | [], _ => by simp
  | x :: L, h => by
    rw [List.flatten_cons, List.length_append, flat_len (fun y hy => h y (List.mem_cons_of_mem _ hy)), h x (List.mem_cons_self ..), List.length_cons, Nat.succ_mul, Nat.add_comm]
theorem flat_drop : ∀ {L : List (List α)}, (∀ x ∈ L, x.length = m) → ∀ i, L.flatten.drop (i * m) = (L.drop i).flatten
  | [], _, i => by simp
  | x :: L, h, 0 => by simp
  | x :: L, h, i + 1 => by
    have hx := h x (List.mem_cons_self ..)
    rw [List.flatten_cons, List.drop_succ_cons, Nat.succ_mul, List.drop_append, hx, List.drop_eq_nil_of_le (by omega), List.nil_append, Nat.add_sub_cancel]
    exact flat_drop (fun y hy => h y (List.mem_cons_of_mem _ hy)) i
theorem flat_take : ∀ {L : List (List α)}, (∀ x ∈ L, x.length = m) → ∀ i, L.flatten.take (i * m) = (L.take i).flatten
  | [], _, i => by simp
  | x :: L, h, 0 => by simp
  | x :: L, h, i + 1 => by
    have hx := h x (List.mem_cons_self ..)
    rw [List.flatten_cons, List.take_succ_cons, Nat.succ_mul, List.take_append, hx, List.take_of_length_le (by omega), Nat.add_sub_cancel, List.flatten_cons]
    rw [flat_take (fun y hy => h y (List.mem_cons_of_mem _ hy)) i]
theorem flat_get {L : List (List α)} (h : ∀ x ∈ L, x.length = m) {i j : Nat} {x : List α} (hx : L[i]? = some x) (hj : j < m) : L.flatten[i * m + j]? = x[j]? := by
  obtain ⟨hi, hx'⟩ := List.getElem?_eq_some_iff.1 hx
  rw [← List.getElem?_drop, flat_drop h, List.drop_eq_getElem_cons hi, List.flatten_cons, hx', List.getElem?_append_left]
  rw [h x (List.mem_of_getElem? hx)]; exact hj
/-- A beginning of one group is laid anew. -/
theorem flat_splice {L : List (List α)} (h : ∀ x ∈ L, x.length = m) {i : Nat} {x : List α} (hx : L[i]? = some x) {y : List α} (hy : y.length ≤ m) :
    splice L.flatten (i * m) y = (L.set i (y ++ x.drop y.length)).flatten := by
  obtain ⟨hi, hx'⟩ := List.getElem?_eq_some_iff.1 hx
  have hl := h x (List.mem_of_getElem? hx)
  unfold splice
  rw [flat_take h, ← List.drop_drop, flat_drop h, List.drop_eq_getElem_cons hi, hx', List.flatten_cons, List.drop_append, hl]
  rw [List.set_eq_take_append_cons_drop, if_pos hi, List.flatten_append, List.flatten_cons]
  rw [show y.length - m = 0 by omega, List.drop_zero, List.append_assoc]
theorem flat_snoc (L : List (List α)) (x : List α) : (L ++ [x]).flatten = L.flatten ++ x := by simp
end
theorem setCells_eq_setRow {t : TypeId} (g : Nat) : ∀ (vs : List Value) (o : Nat) (cur : List Value) (w : World), w.heap[g]? = some (.cells cur.toArray t (0, 0)) → o + vs.length ≤ cur.length → w.setCells g o vs = w.setRow g (splice cur o vs).toArray
  | [], o, cur, w, hg, _ => by
    rw [World.setCells]
    simp only [splice, List.length_nil, Nat.add_zero, List.nil_append, List.take_append_drop]
    exact (setRow_self w g _ t _ hg).symm
  | v :: vs, o, cur, w, hg, hl => by
    simp only [List.length_cons] at hl
    rw [World.setCells, setCell_eq_setRow w g o _ t _ v hg]
    have hset : cur.toArray.setIfInBounds o v = (cur.set o v).toArray := by simp
    rw [hset]
    rw [setCells_eq_setRow g vs (o + 1) (cur.set o v) _ (setRow_heap w g _ _ t _ hg) (by simp; omega), setRow_setRow]
    congr 2
    have ho : o < cur.length := by omega
    unfold splice
    rw [show (cur.set o v).take (o + 1) = cur.take o ++ [v] by
      rw [List.take_succ_eq_append_getElem (by simpa using ho), List.take_set_of_le (Nat.le_refl _)]; simp]
    rw [List.drop_set_of_lt (by omega)]
    simp only [List.length_cons, List.append_assoc, List.cons_append, List.nil_append]
    rw [show o + 1 + vs.length = o + (vs.length + 1) by omega]
theorem range_of_flat {w : World} {g m : Nat} {L : List (List Value)} {t : TypeId} {fr : Nat × Nat} (hg : w.heap[g]? = some (.cells L.flatten.toArray t fr)) (h : ∀ x ∈ L, x.length = m) {i : Nat} {x : List Value} (hx : L[i]? = some x) :
    w.rangeAt g (i * m) x := fun j v hv => by
  have hj : j < m := by rw [← h x (List.mem_of_getElem? hx)]; exact (List.getElem?_eq_some_iff.1 hv).1
  rw [cell_of_row w g _ _ t fr hg, List.getElem?_toArray, flat_get h hx hj, hv]
theorem there_of_flat {w : World} {g m : Nat} {L : List (List Value)} {t : TypeId} (hg : w.heap[g]? = some (.cells L.flatten.toArray t (0, 0))) (h : ∀ x ∈ L, x.length = m) {i : Nat} (hi : i < L.length) : w.there g (i * m) m := fun j hj => by
  refine ⟨?_, frozen_of_row w g _ _ t hg⟩
  rw [cell_of_row w g _ _ t _ hg, List.getElem?_toArray]
  have hx : L[i]? = some L[i] := List.getElem?_eq_getElem hi
  rw [flat_get h hx hj, List.getElem?_eq_getElem (by rw [h _ (List.getElem_mem hi)]; exact hj)]; rfl
theorem setCells_flat {w : World} {g m : Nat} {L : List (List Value)} {t : TypeId} (hg : w.heap[g]? = some (.cells L.flatten.toArray t (0, 0))) (h : ∀ x ∈ L, x.length = m) {i : Nat} (hi : i < L.length) {y : List Value} (hy : y.length = m) :
    w.setCells g (i * m) y = w.setRow g (L.set i y).flatten.toArray := by
  have hx : L[i]? = some L[i] := List.getElem?_eq_getElem hi
  have hl := h _ (List.getElem_mem hi)
  have hb : i * m + y.length ≤ L.flatten.length := by
    rw [flat_len h, hy, ← Nat.succ_mul]; exact Nat.mul_le_mul_right _ hi
  rw [setCells_eq_setRow g y (i * m) _ w hg hb, flat_splice h hx (by omega), List.drop_eq_nil_of_le (by omega), List.append_nil]
theorem madeCells_const (z : Value) (n k : Nat) (hk : 0 < k) : madeCells (Array.replicate k z) n = Array.replicate n z := by
  apply Array.ext
  · simp [madeCells]
  · intro i h1 h2
    simp [madeCells, Nat.mod_lt _ hk]

/-- Blocks that S lets change, of these types. -/
def Mut (S : Nat → Prop) (ts : List TypeId) (w : World) (k : Nat) : Prop := S k ∧ ∃ c t f, w.heap[k]? = some (.cells c t f) ∧ t ∈ ts
theorem Mut.of {S : Nat → Prop} {ts : List TypeId} {w : World} {k : Nat} {c : Array Value} {t : TypeId} {f : Nat × Nat} (h : S k) (hc : w.heap[k]? = some (.cells c t f)) (ht : t ∈ ts) : Mut S ts w k := ⟨h, c, t, f, hc, ht⟩
theorem not_mut {S : Nat → Prop} {ts : List TypeId} {w : World} {k : Nat} {c : Array Value} {t : TypeId} {f : Nat × Nat} (hc : w.heap[k]? = some (.cells c t f)) (ht : t ∉ ts) : ¬ Mut S ts w k := by
  rintro ⟨_, c', t', f', h1, h2⟩
  rw [hc] at h1; cases h1; exact ht h2
theorem Chg.tr {S : Nat → Prop} {ts : List TypeId} {w w1 w2 : World} (h : Chg (Mut S ts w) w w1) (k : Chg (Mut S ts w1) w1 w2) : Chg (Mut S ts w) w w2 :=
  h.trans k fun i hi hm => by
    by_cases hw : Mut S ts w i
    · exact hw
    · obtain ⟨hs, c, t, f, h1, h2⟩ := hm
      rw [h.block i hi hw] at h1
      exact ⟨hs, c, t, f, h1, h2⟩
theorem Chg.mut {S T : Nat → Prop} {ts us : List TypeId} {w w1 : World} (h : Chg (Mut S ts w) w w1) (hs : ∀ k, k < w.heap.size → S k → T k) (hts : ∀ t ∈ ts, t ∈ us) : Chg (Mut T us w) w w1 :=
  h.mono fun k hk ⟨h1, c, t, f, h2, h3⟩ => ⟨hs k hk h1, c, t, f, h2, hts t h3⟩
theorem Chg.stays {S : Nat → Prop} {ts : List TypeId} {w w1 : World} (h : Chg (Mut S ts w) w w1) {g : Nat} {c : Array Value} {t : TypeId} {f : Nat × Nat} (hc : w.heap[g]? = some (.cells c t f)) (ht : t ∉ ts) : w1.heap[g]? = some (.cells c t f) :=
  (h.block g (lt_of_block hc) (not_mut hc ht)).trans hc
/-- What a row owns stays, if its type is none of those. -/
theorem Chg.owns {S : Nat → Prop} {ts : List TypeId} {w w1 : World} (h : Chg (Mut S ts w) w w1) {base : Nat} {e : TypeId} {size n : Nat} {v : Value} {xs : List Value} (ho : w.ownsRow base e size v n xs) (ht : e ∉ ts) : w1.ownsRow base e size v n xs := by
  refine ⟨ho.1, ?_⟩
  rcases ho.2 with hn | ⟨g, cap, cur, hv, hg, hh, r⟩
  · exact .inl hn
  · exact .inr ⟨g, cap, cur, hv, hg, h.stays hh ht, r⟩
theorem owns_same {w w1 : World} {base : Nat} {e : TypeId} {size n : Nat} {v : Value} {xs : List Value} (ho : w.ownsRow base e size v n xs) (hm : ∀ g, v.ownBlock = some g → w1.heap[g]? = w.heap[g]?) : w1.ownsRow base e size v n xs := by
  refine ⟨ho.1, ?_⟩
  rcases ho.2 with hn | ⟨g, cap, cur, hv, hg, hh, r⟩
  · exact .inl hn
  · exact .inr ⟨g, cap, cur, hv, hg, (hm g (by rw [hv]; rfl)).trans hh, r⟩
theorem owns_block {w : World} {base : Nat} {e : TypeId} {size n : Nat} {v : Value} {xs : List Value} (ho : w.ownsRow base e size v n xs) {g : Nat} (hg : v.ownBlock = some g) : base ≤ g ∧ g < w.heap.size ∧ ∃ c, w.heap[g]? = some (.cells c e (0, 0)) := by
  rcases ho.2 with ⟨hn, _⟩ | ⟨g', cap, cur, hv, hb, hh, r⟩
  · rw [hn] at hg; cases hg
  · rw [hv] at hg; cases hg; exact ⟨hb, lt_of_block hh, cur, hh⟩
theorem owns_shape {w : World} {base : Nat} {e : TypeId} {size n : Nat} {v : Value} {xs : List Value} (ho : w.ownsRow base e size v n xs) : ∃ a c, v = .slice a n c ∧ n ≤ c ∧ c ≤ maxLen := by
  rcases ho.2 with ⟨hn, h0⟩ | ⟨g', cap, cur, hv, hb, hh, h1, h2, _⟩
  · exact ⟨none, 0, by rw [hn, h0], by omega, by simp [maxLen]⟩
  · exact ⟨_, cap, hv, h1, h2⟩
/-- The i-th of the groups that a row owns. -/
theorem owns_range {w : World} {base : Nat} {e : TypeId} {size : Nat} {v : Value} {L : List (List Value)} (ho : w.ownsRow base e size v L.length L.flatten) (h : ∀ x ∈ L, x.length = size) {i : Nat} {x : List Value} (hx : L[i]? = some x) :
    ∃ g cap, v = .slice (some ⟨g, 0, none⟩) L.length cap ∧ w.rangeAt g (i * size) x := by
  have hi := (List.getElem?_eq_some_iff.1 hx).1
  rcases ho.2 with ⟨hn, h0⟩ | ⟨g', cap, cur, hv, hb, hh, h1, h2, hcs, htake⟩
  · omega
  · refine ⟨g', cap, hv, fun j u hu => ?_⟩
    have hj : j < size := by rw [← h x (List.mem_of_getElem? hx)]; exact (List.getElem?_eq_some_iff.1 hu).1
    rw [cell_of_row w g' _ cur e (0, 0) hh]
    have h3 : (cur.toList.take (L.length * size))[i * size + j]? = some u := by rw [htake, flat_get h hx hj, hu]
    rw [List.getElem?_take] at h3
    split at h3
    · simpa using h3
    · cases h3
end Go.Proofs.Ytjlmbmamkhneiaa
