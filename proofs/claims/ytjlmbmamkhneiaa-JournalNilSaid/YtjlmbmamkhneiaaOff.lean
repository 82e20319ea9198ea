/- The walk of a device's Off. -/
import Derived.Test.YtjlmbmamkhneiaaDev
import Derived.Test.YtjlmbmamkhneiaaOps
import Derived.Deep.RegionHeld3
import Derived.Deep.DeepCutAuto
import Derived.Outline
namespace Go.Proofs.Ytjlmbmamkhneiaa
open Go Go.RowKit
set_option linter.unusedVariables false
def keepN (keep : List Int) (j : Nat) : Nat := (min (max (keep.getD (j % keep.length) 0) 0) 64).toNat
theorem keepN_le (keep : List Int) (j : Nat) : keepN keep j ≤ 64 := by unfold keepN; omega
def tearAt (n : Nat) (p : Nat × List UInt8) (L : List (List UInt8)) : List (List UInt8) := L.set p.1 (p.2.take n ++ (L.getD p.1 []).drop n)
def tear (keep : List Int) : Nat → List (Nat × List UInt8) → List (List UInt8) → List (List UInt8)
  | _, [], L => L
  | j, p :: ps, L => tear keep (j + 1) ps (tearAt (keepN keep j) p L)
theorem tear_snoc (keep : List Int) (p : Nat × List UInt8) : ∀ (ps : List (Nat × List UInt8)) (j : Nat) (L : List (List UInt8)), tear keep j (ps ++ [p]) L = tearAt (keepN keep (j + ps.length)) p (tear keep j ps L)
  | [], j, L => by simp [tear]
  | q :: ps, j, L => by
    rw [List.cons_append, tear, tear_snoc keep p ps, tear, List.length_cons]
    congr 2; omega
theorem tearAt_len (n : Nat) (p : Nat × List UInt8) (L : List (List UInt8)) : (tearAt n p L).length = L.length := by simp [tearAt]
theorem tear_len (keep : List Int) : ∀ (ps : List (Nat × List UInt8)) (j : Nat) (L : List (List UInt8)), (tear keep j ps L).length = L.length
  | [], _, _ => rfl
  | p :: ps, j, L => by rw [tear, tear_len keep ps, tearAt_len]
theorem tearAt_cell (n : Nat) (hn : n ≤ 64) (p : Nat × List UInt8) (hp : p.2.length = 64) (L : List (List UInt8)) (hL : ∀ b ∈ L, b.length = 64) (h1 : p.1 < L.length) : ∀ b ∈ tearAt n p L, b.length = 64 := by
  intro b hb
  rcases List.mem_or_eq_of_mem_set hb with h | h
  · exact hL b h
  · rw [h, List.length_append, List.length_take, List.length_drop, List.getD_eq_getElem?_getD, List.getElem?_eq_getElem h1, Option.getD_some, hL _ (List.getElem_mem h1), hp]; omega
def DevS.torn (D : DevS) (keep : List Int) (m : Nat) : DevS := { D with lasts := tear keep 0 (D.pend.take m) D.lasts }
def DevS.off (D : DevS) (keep : List Int) : DevS := if D.down = true then D else { D with lasts := tear keep 0 D.pend D.lasts, pend := [], down := true, fuse := 0 }
theorem torn_zero (D : DevS) (keep : List Int) : D.torn keep 0 = D := rfl
theorem torn_all (D : DevS) (keep : List Int) : D.torn keep D.pend.length = { D with lasts := tear keep 0 D.pend D.lasts } := by simp [DevS.torn]
theorem torn_step (D : DevS) (keep : List Int) {m : Nat} (hm : m < D.pend.length) : D.torn keep (m + 1) = { D with lasts := tearAt (keepN keep m) D.pend[m] (D.torn keep m).lasts } := by
  simp only [DevS.torn]
  rw [take_snoc hm, tear_snoc, List.length_take, Nat.min_eq_left (by omega), Nat.zero_add]
section
variable {S : Nat → Prop} {w w' : World} {d g : Nat} {vP vK : Value} {D : DevS}
theorem DevIs.setLasts (h : DevIs S w d g vP vK D) {i : Nat} (hi : i < D.lasts.length) {b : List UInt8} (hb : b.length = 64) :
    DevIs S (w.setRow g ((D.lasts.set i b).map cellV).flatten.toArray) d g vP vK { D with lasts := D.lasts.set i b } ∧ Chg (Mut S pts w) w (w.setRow g ((D.lasts.set i b).map cellV).flatten.toArray) := by
  refine ⟨⟨?_, setRow_heap w g _ _ 90 _ h.lasts, owns_same h.pend (fun k hk => setRow_other w g k _ (h.nep k hk).2), owns_same h.keep (fun k hk => setRow_other w g k _ (h.nek k hk).2.1), h.sd, h.sg, h.sp, ?_⟩, (Chg.refl _ w).setRow (fun _ => .of h.sg h.lasts (by simp)) _⟩
  · rw [setRow_other w g d _ h.ne, h.dev]; simp
  · refine ⟨fun c hc => ?_, fun p hp => by have := h.ok.pend p hp; simpa using this, by simpa using h.ok.most, h.ok.fuse, h.ok.few⟩
    rcases List.mem_or_eq_of_mem_set hc with e | e
    · exact h.ok.cell c e
    · rw [e]; exact hb
/-- A beginning of a write lasts. -/
theorem DevIs.tear (h : DevIs S w d g vP vK D) {p : Nat × List UInt8} (hp : p.1 < D.lasts.length) (hl : p.2.length = 64) {n : Nat} (hn : n ≤ 64) :
    DevIs S (w.setRow g (splice (D.lasts.map cellV).flatten (p.1 * 64) ((p.2.take n).map B)).toArray) d g vP vK { D with lasts := tearAt n p D.lasts } ∧ Chg (Mut S pts w) w (w.setRow g (splice (D.lasts.map cellV).flatten (p.1 * 64) ((p.2.take n).map B)).toArray) := by
  have hx : (D.lasts.map cellV)[p.1]? = some (cellV D.lasts[p.1]) := by rw [List.getElem?_map, List.getElem?_eq_getElem hp]; rfl
  have hlen : ((p.2.take n).map B).length = n := by simp; omega
  have hc := h.ok.cell _ (List.getElem_mem hp)
  have e : splice (D.lasts.map cellV).flatten (p.1 * 64) ((p.2.take n).map B) = ((D.lasts.set p.1 (p.2.take n ++ (D.lasts.getD p.1 []).drop n)).map cellV).flatten := by
    rw [flat_splice (cellV_len h.ok) hx (by omega), hlen, List.map_set]
    congr 2
    rw [List.getD_eq_getElem?_getD, List.getElem?_eq_getElem hp, Option.getD_some]
    simp [cellV]
  rw [e]
  exact h.setLasts hp (by rw [List.getD_eq_getElem?_getD, List.getElem?_eq_getElem hp, Option.getD_some, List.length_append, List.length_take, List.length_drop, hc, hl]; omega)
end
theorem keep_zero {keep : List Int} {j : Nat} (h : keep.getD (j % keep.length) 0 < 0) : keepN keep j = 0 := by unfold keepN; omega
theorem keep_nil (j : Nat) : keepN [] j = 0 := rfl
theorem keep_most {keep : List Int} {j : Nat} (h : 64 < keep.getD (j % keep.length) 0) : keepN keep j = 64 := by unfold keepN; omega
theorem keep_mid {keep : List Int} {j : Nat} (h0 : ¬ keep.getD (j % keep.length) 0 < 0) (h : ¬ 64 < keep.getD (j % keep.length) 0) : keep.getD (j % keep.length) 0 = (keepN keep j : Int) := by unfold keepN; omega
theorem size92 : (Try.prog.info? 92).map (·.size) = some 65 := by kernel_rfl
theorem size5 : (Try.prog.info? 5).map (·.size) = some 1 := by kernel_rfl
def Z92 : Value := .agg (#[.int .i64 0] ++ Array.replicate 64 (.int .u8 0))
theorem zero92 (w : World) : (zeroValue 92).run Try.prog w = .ok Z92 w := by
  obtain ⟨i, hi, hz, _, _⟩ := info_parts info92
  simp [zeroValue, typeInfo, hi, hz, Z92]
theorem writeL (p : Nat × List UInt8) (hp : p.2.length = 64) : (Try.prog.info? 92).map (·.size) = some (writeV p).length := by rw [size92]; simp [writeV, hp]
theorem writeA (p : Nat × List UInt8) (hp : p.2.length = 64) : (Try.prog.info? 92).map (·.size) = some (writeV p).toArray.size ∧ Z92.cells.size = (writeV p).toArray.size ∧ (writeV p).toArray.all (·.oneCell') = true := by
  refine ⟨by rw [size92]; simp [writeV, hp], by simp [Z92, Value.cells, writeV, hp], ?_⟩
  apply all_oneCell_toArray
  intro v hv
  simp only [writeV, List.mem_cons, List.mem_map] at hv
  rcases hv with rfl | ⟨b, _, rfl⟩ <;> rfl
/-- What an element of 'pending' is as a variable of its own at block k. -/
structure WrAt (w : World) (k : Nat) (p : Nat × List UInt8) : Prop where
  row : w.heap[k]? = some (.cells (writeV p).toArray 92 (0, 0))
theorem WrAt.at {w : World} {k : Nat} {p : Nat × List UInt8} (h : WrAt w k p) : w.cell? ⟨k, 0, none⟩ = some (I p.1) := by rw [cell_of_row w k 0 _ _ _ h.row]; rfl
theorem WrAt.range {w : World} {k : Nat} {p : Nat × List UInt8} (h : WrAt w k p) : w.rangeAt k 1 (p.2.map B) := fun j v hv => by
  rw [cell_of_row w k _ _ _ _ h.row, Nat.add_comm]; simpa [writeV] using hv
theorem new_write {wr : World} {p : Nat × List UInt8} {S : Nat → Prop} {d g : Nat} {vP vK : Value} {D : DevS} (h : DevIs S wr d g vP vK D) (w1 w2 : World) (e1 : w1 = wr.alloc (.cells Z92.cells 92)) (e2 : w2 = w1.setRow wr.heap.size (writeV p).toArray) :
    WrAt w2 wr.heap.size p ∧ DevIs S w2 d g vP vK D ∧ Chg (fun _ => False) wr w2 ∧ w2.heap.size = wr.heap.size + 1 := by
  subst e1 e2
  rw [World.setRow_alloc_new]
  exact ⟨⟨heap_alloc_new _ _⟩, h.alloc _, (Chg.refl _ _).alloc _, World.size_alloc _ _⟩
theorem tear_world {S : Nat → Prop} {wc w3 : World} {d g n : Nat} {vP vK : Value} {D : DevS} {p : Nat × List UInt8} (h : DevIs S wc d g vP vK D) (hp : p.1 < D.lasts.length) (hl : p.2.length = 64) (hn : n ≤ 64)
    (hw : w3 = wc.drew.setRow g (splice (D.lasts.map cellV).flatten (p.1 * 64) ((p.2.take n).map B)).toArray) : DevIs S w3 d g vP vK { D with lasts := tearAt n p D.lasts } ∧ Chg (Mut S pts wc) wc w3 := by
  obtain ⟨h1, h2⟩ := h.tear hp hl hn
  have e : w3.heap = (wc.setRow g (splice (D.lasts.map cellV).flatten (p.1 * 64) ((p.2.take n).map B)).toArray).heap := by rw [hw]; rfl
  refine ⟨h1.same e, ?_⟩
  rw [hw]
  exact h2.drew
theorem tear_keep {S : Nat → Prop} {wc w3 : World} {d g k c : Nat} {vP vK : Value} {D : DevS} {p : Nat × List UInt8} (h : DevIs S wc d g vP vK D) (hl : D.lasts.length = c) (hw : WrAt wc k p) {cs : Array Value}
    (e : w3 = wc.drew.setRow g cs) : w3.cell? ⟨d, 0, none⟩ = some (.slice (some ⟨g, 0, none⟩) c c) ∧ w3.cell? ⟨k, 0, none⟩ = some (I p.1) := by
  subst e
  have hk : k ≠ g := by rintro rfl; have := h.lasts; rw [hw.row] at this; simp at this
  obtain ⟨h0, _⟩ := cells5 h.dev
  rw [cell_setRow_other _ _ _ _ h.ne, cell_setRow_other _ _ _ _ hk, ← hl]
  exact ⟨h0, hw.at⟩
/-- The device's own block was written anew. -/
theorem DevIs.fields {S : Nat → Prop} {w w' : World} {d g : Nat} {vP vK : Value} {D : DevS} (h : DevIs S w d g vP vK D) (vP' vK' : Value) (D' : DevS) (hl : D'.lasts = D.lasts)
    (hd : w'.heap[d]? = some (.cells #[.slice (some ⟨g, 0, none⟩) D.lasts.length D.lasts.length, vP', .bool D'.down, I D'.fuse, vK'] 87 (0, 0))) (ho : ∀ k, k ≠ d → w'.heap[k]? = w.heap[k]?)
    (hp : w.ownsRow 0 92 65 vP' (D'.pend.map writeV).length (D'.pend.map writeV).flatten) (hk : w.ownsRow 0 3 1 vK' (D'.keep.map I).length (D'.keep.map I)) (sp : ∀ k, vP'.ownBlock = some k → S k) (ok : DevOk D') : DevIs S w' d g vP' vK' D' := by
  refine ⟨by rw [hl]; exact hd, by rw [hl]; exact (ho g h.ne.symm).trans h.lasts, owns_same hp (fun k hk => ho k ?_), owns_same hk (fun k hk' => ho k ?_), h.sd, h.sg, sp, ok⟩
  · rintro rfl; obtain ⟨_, _, c, hc⟩ := owns_block hp hk; have := h.dev; rw [hc] at this; simp at this
  · rintro rfl; obtain ⟨_, _, c, hc⟩ := owns_block hk hk'; have := h.dev; rw [hc] at this; simp at this
theorem DevIs.set {S : Nat → Prop} {w : World} {d g : Nat} {vP vK : Value} {D : DevS} (h : DevIs S w d g vP vK D) {w1 : World} (hc : Chg (Mut S pts w) w w1) (i : Nat) (u : Value) : Chg (Mut S pts w) w (w1.setCell ⟨d, i, none⟩ u) :=
  hc.setCell (fun _ => .of h.sd h.dev (by simp)) u
theorem off_end {S : Nat → Prop} {w : World} {d g : Nat} {vP vK : Value} {D : DevS} (h : DevIs S w d g vP vK D) :
    DevAt S (((w.setCell ⟨d, 1, none⟩ (.slice none 0 0)).setCell ⟨d, 2, none⟩ (.bool true)).setCell ⟨d, 3, none⟩ (.int .i64 0)) d { D with pend := [], down := true, fuse := 0 } ∧
      Chg (Mut S pts w) w (((w.setCell ⟨d, 1, none⟩ (.slice none 0 0)).setCell ⟨d, 2, none⟩ (.bool true)).setCell ⟨d, 3, none⟩ (.int .i64 0)) := by
  have e1 := heap_setCell_same w d 1 _ 87 (.slice none 0 0) h.dev
  have e2 := heap_setCell_same _ d 2 _ 87 (.bool true) e1
  have e3 := heap_setCell_same _ d 3 _ 87 (.int .i64 0) e2
  refine ⟨⟨g, .slice none 0 0, vK, h.fields _ _ _ rfl e3 (fun k hk => ?_) (World.ownsRow_nil _ _ _ _) h.keep (fun k hk => (by cases hk)) ⟨h.ok.cell, fun p hp => (by cases hp), h.ok.most, Nat.zero_le _, Nat.zero_le _⟩⟩, h.set (h.set (h.set (Chg.refl _ w) 1 _) 2 _) 3 _⟩
  rw [heap_setCell_other _ _ _ _ hk, heap_setCell_other _ _ _ _ hk, heap_setCell_other _ _ _ _ hk]
end Go.Proofs.Ytjlmbmamkhneiaa
