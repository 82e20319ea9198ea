/- Operations on whole cells and writes, under names of their own, so that the walk leaves them folded. -/
import Derived.Test.YtjlmbmamkhneiaaClo
namespace Go.Proofs.Ytjlmbmamkhneiaa
open Go Go.RowKit
def load90 (v : Value) := Instr.loadAt 90 v
def load92 (v : Value) := Instr.loadAt 92 v
def store90 (v u : Value) := Instr.storeAt 90 v u
def store92 (v u : Value) := Instr.storeAt 92 v u
def alloc90 (b : Bool) (v : Value) := Instr.alloc 90 b v
def alloc92 (b : Bool) (v : Value) := Instr.alloc 92 b v
def build92 (p : Array (Nat × Value)) := Instr.build 92 p
def bslice85 (n : Nat) (p : Array (Nat × Value)) := Instr.buildSlice 85 n p
theorem load90_fold (v : Value) : Instr.loadAt 90 v = load90 v := rfl
theorem load92_fold (v : Value) : Instr.loadAt 92 v = load92 v := rfl
theorem store90_fold (v u : Value) : Instr.storeAt 90 v u = store90 v u := rfl
theorem store92_fold (v u : Value) : Instr.storeAt 92 v u = store92 v u := rfl
theorem alloc90_fold (b : Bool) (v : Value) : Instr.alloc 90 b v = alloc90 b v := rfl
theorem alloc92_fold (b : Bool) (v : Value) : Instr.alloc 92 b v = alloc92 b v := rfl
theorem build92_fold (p : Array (Nat × Value)) : Instr.build 92 p = build92 p := rfl
theorem bslice85_fold (n : Nat) (p : Array (Nat × Value)) : Instr.buildSlice 85 n p = bslice85 n p := rfl
theorem size90 : (Try.prog.info? 90).map (·.size) = some 64 := by kernel_rfl
def Z90 : Value := .agg (Array.replicate 64 (.int .u8 0))
theorem zero90 (w : World) : (zeroValue 90).run Try.prog w = .ok Z90 w := by
  obtain ⟨i, hi, hz, _, _⟩ := info_parts info90
  simp [zeroValue, typeInfo, hi, hz, Z90]
theorem cellL (b : List UInt8) (hb : b.length = 64) : (Try.prog.info? 90).map (·.size) = some (cellV b).length := by rw [size90]; simp [cellV, hb]
theorem cellS (b : List UInt8) (hb : b.length = 64) : (Try.prog.info? 90).map (·.size) = some (cellV b).toArray.size := by rw [size90]; simp [cellV, hb]
theorem cellO (b : List UInt8) : ∀ v ∈ cellV b, v.oneCell' = true := by intro v hv; obtain ⟨c, _, rfl⟩ := List.mem_map.1 hv; rfl
def zc90 : Array Value := Z90.cells
def zc92 : Array Value := Z92.cells
theorem run_alloc90 (x : Value) (w : World) : (alloc90 true x).run Try.prog w = .ok (.pointer (some ⟨w.heap.size, 0, none⟩)) (w.alloc (.cells zc90 90)) := run_alloc_z 90 Z90 zero90 x w
theorem run_alloc92 (x : Value) (w : World) : (alloc92 true x).run Try.prog w = .ok (.pointer (some ⟨w.heap.size, 0, none⟩)) (w.alloc (.cells zc92 92)) := run_alloc_z 92 Z92 zero92 x w
theorem run_load92 {w : World} {b o : Nat} {p : Nat × List UInt8} (hc : w.rangeAt b o (writeV p)) (hp : p.2.length = 64) : (load92 (.pointer (some ⟨b, o, none⟩))).run Try.prog w = .ok (.agg (writeV p).toArray) w :=
  run_loadAt_mid w b o 92 (writeV p) _ hc Try.underlying92 rfl (writeL p hp)
theorem run_load90 {w : World} {b o : Nat} {c : List UInt8} (hc : w.rangeAt b o (cellV c)) (hp : c.length = 64) : (load90 (.pointer (some ⟨b, o, none⟩))).run Try.prog w = .ok (.agg (cellV c).toArray) w :=
  run_loadAt_mid w b o 90 (cellV c) _ hc Try.underlying90 rfl (cellL c hp)
/-- A variable of its own that was just made gets its first value. -/
theorem run_store92_new (w : World) (p : Nat × List UInt8) (hp : p.2.length = 64) : (store92 (.pointer (some ⟨w.heap.size, 0, none⟩)) (.agg (writeV p).toArray)).run Try.prog (w.alloc (.cells zc92 92)) = .ok () (w.alloc (.cells (writeV p).toArray 92)) := by
  unfold zc92
  have h := run_storeVar_row (P := Try.prog) (w.alloc (.cells Z92.cells 92)) w.heap.size 92 92 Z92.cells (writeV p).toArray (heap_alloc_new _ _) (writeA p hp).1 (writeA p hp).2.1 (writeA p hp).2.2
  rw [World.setRow_alloc_new] at h
  simp only [store92, Instr.storeAt, Instr.sureAddr, Sem.run_bind, Sem.run_pure, Result.andThen_ok, h]
theorem run_store90_new (w : World) (c : List UInt8) (hp : c.length = 64) : (store90 (.pointer (some ⟨w.heap.size, 0, none⟩)) (.agg (cellV c).toArray)).run Try.prog (w.alloc (.cells zc90 90)) = .ok () (w.alloc (.cells (cellV c).toArray 90)) := by
  unfold zc90
  have h := run_storeVar_row (P := Try.prog) (w.alloc (.cells Z90.cells 90)) w.heap.size 90 90 Z90.cells (cellV c).toArray (heap_alloc_new _ _) (cellS c hp) (by simp [Z90, Value.cells, cellV, hp]) (all_oneCell_toArray (cellO c))
  rw [World.setRow_alloc_new] at h
  simp only [store90, Instr.storeAt, Instr.sureAddr, Sem.run_bind, Sem.run_pure, Result.andThen_ok, h]
theorem run_store90_row {w : World} {g : Nat} {t : TypeId} {c0 : List UInt8} (hg : w.heap[g]? = some (.cells (cellV c0).toArray t (0, 0))) (h0 : c0.length = 64) (c : List UInt8) (hp : c.length = 64) :
    (store90 (.pointer (some ⟨g, 0, none⟩)) (.agg (cellV c).toArray)).run Try.prog w = .ok () (w.setRow g (cellV c).toArray) := by
  have h := run_storeVar_row (P := Try.prog) w g t 90 _ (cellV c).toArray hg (cellS c hp) (by simp [cellV, hp, h0]) (all_oneCell_toArray (cellO c))
  simp only [store90, Instr.storeAt, Instr.sureAddr, Sem.run_bind, Sem.run_pure, Result.andThen_ok, h]
theorem run_store90_mid {w : World} {g i : Nat} {L : List (List UInt8)} (hg : w.heap[g]? = some (.cells (L.map cellV).flatten.toArray 90 (0, 0))) (hL : ∀ b ∈ L, b.length = 64) (hi : i < L.length) (c : List UInt8) (hp : c.length = 64) :
    (store90 (.pointer (some ⟨g, i * 64, none⟩)) (.agg (cellV c).toArray)).run Try.prog w = .ok () (w.setRow g ((L.set i c).map cellV).flatten.toArray) := by
  have hl : ∀ x ∈ L.map cellV, x.length = 64 := by intro x hx; obtain ⟨b, hb, rfl⟩ := List.mem_map.1 hx; simp [cellV, hL b hb]
  have hs : (cellV c).toArray.size = 64 := by simp [cellV, hp]
  have ht := there_of_flat hg hl (i := i) (by simpa using hi)
  have h := run_storeAt_mid (P := Try.prog) w g (i * 64) 90 (cellV c).toArray (by rw [hs]; exact ht) (cellS c hp) (all_oneCell_toArray (cellO c))
  rw [show (cellV c).toArray.toList = cellV c from rfl, setCells_flat hg hl (i := i) (by simpa using hi) (by simp [cellV, hp]), ← List.map_set] at h
  exact h
theorem foldl_all (n : Nat) (A C : List Value) (h : A.length = C.length) (hn : n ≤ A.length) : ((A.take n).zipIdx.foldl (fun (cs : Array Value) (x : Value × Nat) => cs.setIfInBounds (0 + x.2) x.1) C.toArray) = (A.take n ++ C.drop n).toArray := by
  induction n with
  | zero => simp
  | succ n ih =>
    rw [List.take_succ_eq_append_getElem hn, List.zipIdx_append, List.foldl_append, ih (by omega)]
    simp only [List.length_take, Nat.min_eq_left (show n ≤ A.length by omega), List.zipIdx_cons, List.zipIdx_nil, List.foldl_cons, List.foldl_nil, Nat.zero_add]
    rw [List.setIfInBounds_toArray, List.set_append_right _ _ (by simp; omega)]
    simp only [List.length_take, Nat.min_eq_left (show n ≤ A.length by omega), Nat.sub_self]
    rw [List.drop_eq_getElem_cons (show n < C.length by omega), List.set_cons_zero]
    rw [List.append_assoc]; rfl
theorem fill_one (cells A : Array Value) (n : Nat) (h1 : A.size = n) (h2 : cells.size = n) : Instr.fill (fun i => some (i * n, n)) cells [(0, .agg A)] = some A := by
  have e1 := foldl_all n A.toList cells.toList (by simp [h1, h2]) (by simp [h1])
  rw [List.take_of_length_le (by simp [h1]), List.drop_eq_nil_of_le (by simp [h2]), List.append_nil] at e1
  simp only [Instr.fill, Value.cells, Nat.zero_mul, Nat.zero_add]
  rw [if_neg (by simp [h1, h2])]
  congr 1
  rw [← Array.foldl_toList, Array.toList_zipIdx]
  simpa using e1
theorem run_bslice85 (w : World) (p : Nat × List UInt8) (hp : p.2.length = 64) : (bslice85 1 #[(0, .agg (writeV p).toArray)]).run Try.prog w = .ok (.slice (some ⟨w.heap.size, 0, none⟩) 1 1) (w.alloc (.cells (writeV p).toArray 92)) := by
  obtain ⟨i, hi, hz, hs, _⟩ := info_parts info92
  have hl : (writeV p).length = 65 := by simp [writeV, hp]
  have e0 : (Array.range 65).map ((Value.agg (#[Value.int .i64 0] ++ Array.replicate 64 (.int .u8 0))).cells[· % 65]!) = Z92.cells := by
    apply Array.ext
    · simp [Z92, Value.cells]
    · intro k h1 h2
      have hk : k < 65 := by simpa using h1
      simp only [Array.getElem_map, Array.getElem_range, Nat.mod_eq_of_lt hk]
      rw [getElem!_pos _ _ (by simpa [Value.cells] using hk)]
      rfl
  have e2 : Z92.cells.size = 65 := by simp [Z92, Value.cells]
  have e3 : (Value.agg (#[Value.int .i64 0] ++ Array.replicate 64 (.int .u8 0))).cells.size = 65 := by simp [Value.cells]
  simp only [bslice85, Instr.buildSlice, Sem.run_bind, run_underlying Try.underlying85, Result.andThen_ok]
  simp [sizeOf, typeInfo, hi, hs, zeroValue, hz, newRow]
  simp only [e3]
  rw [e0, fill_one Z92.cells (writeV p).toArray 65 (by simpa using hl) e2]
  simp
theorem built92 (z : Int) : Try.prog.built 92 [(0, .int .i64 z)] = some (#[.int .i64 z] ++ Array.replicate 64 (.int .u8 0)) := by kernel_rfl
theorem run_build92 (i : Nat) (w : World) : (build92 #[(0, .int .i64 (i : Int))]).run Try.prog w = .ok (.agg (writeV (i, blank)).toArray) w := by
  have h := run_build (P := Try.prog) w 92 #[(0, .int .i64 (i : Int))] _ (built92 i)
  have e : (#[Value.int .i64 (i : Int)] ++ Array.replicate 64 (.int .u8 0)) = (writeV (i, blank)).toArray := by
    have hB : B 0 = Value.int .u8 0 := rfl
    apply Array.ext'
    rw [Array.toList_append, Array.toList_replicate, writeV, blank, List.map_replicate, hB]
    generalize List.replicate 64 (Value.int .u8 0) = l
    rfl
  rw [e] at h
  exact h
end Go.Proofs.Ytjlmbmamkhneiaa
