/- A device of blocks: what stands where; the walks of New, ready, On, Down, Len, Pending. -/
import Derived.Test.YtjlmbmamkhneiaaProg
import Derived.Test.YtjlmbmamkhneiaaBlk
namespace Go.Proofs.Ytjlmbmamkhneiaa
open Go Go.RowKit

def cellV (b : List UInt8) : List Value := b.map B
def writeV (p : Nat × List UInt8) : List Value := I p.1 :: p.2.map B
/-- A device: blocks as they last, writes that don't yet, the power, what befalls it. -/
structure DevS where
  lasts : List (List UInt8)
  pend : List (Nat × List UInt8)
  down : Bool
  fuse : Nat
  keep : List Int
abbrev pts : List TypeId := [87, 90, 92]
structure DevOk (D : DevS) : Prop where
  cell : ∀ b ∈ D.lasts, b.length = 64
  pend : ∀ p ∈ D.pend, p.1 < D.lasts.length ∧ p.2.length = 64
  most : D.lasts.length ≤ 512
  fuse : D.fuse ≤ 9223372036854775807
  few : D.pend.length ≤ 1048576
/-- The device of the program stands at block d, its blocks at g. -/
structure DevIs (S : Nat → Prop) (w : World) (d g : Nat) (vP vK : Value) (D : DevS) : Prop where
  dev : w.heap[d]? = some (.cells #[.slice (some ⟨g, 0, none⟩) D.lasts.length D.lasts.length, vP, .bool D.down, I D.fuse, vK] 87 (0, 0))
  lasts : w.heap[g]? = some (.cells (D.lasts.map cellV).flatten.toArray 90 (0, 0))
  pend : w.ownsRow 0 92 65 vP (D.pend.map writeV).length (D.pend.map writeV).flatten
  keep : w.ownsRow 0 3 1 vK (D.keep.map I).length (D.keep.map I)
  sd : S d
  sg : S g
  sp : ∀ k, vP.ownBlock = some k → S k
  ok : DevOk D
def DevAt (S : Nat → Prop) (w : World) (d : Nat) (D : DevS) : Prop := ∃ g vP vK, DevIs S w d g vP vK D
theorem cellV_len {D : DevS} (h : DevOk D) : ∀ x ∈ D.lasts.map cellV, x.length = 64 := by
  intro x hx; obtain ⟨b, hb, rfl⟩ := List.mem_map.1 hx; simp [cellV, h.cell b hb]
theorem writeV_len {D : DevS} (h : DevOk D) : ∀ x ∈ D.pend.map writeV, x.length = 65 := by
  intro x hx; obtain ⟨b, hb, rfl⟩ := List.mem_map.1 hx; simp [writeV, (h.pend b hb).2]
section
variable {S : Nat → Prop} {w w' : World} {d g : Nat} {vP vK : Value} {D : DevS}
theorem DevIs.move (h : DevIs S w d g vP vK D) (h1 : w'.heap[d]? = w.heap[d]?) (h2 : w'.heap[g]? = w.heap[g]?) (h3 : ∀ k, vP.ownBlock = some k → w'.heap[k]? = w.heap[k]?) (h4 : ∀ k, vK.ownBlock = some k → w'.heap[k]? = w.heap[k]?) : DevIs S w' d g vP vK D :=
  ⟨h1.trans h.dev, h2.trans h.lasts, owns_same h.pend h3, owns_same h.keep h4, h.sd, h.sg, h.sp, h.ok⟩
theorem DevIs.chg {T : Nat → Prop} {ts : List TypeId} (h : DevIs S w d g vP vK D) (c : Chg (Mut T ts w) w w') (ht : ∀ t ∈ [87, 90, 92, 3], t ∉ ts) : DevIs S w' d g vP vK D :=
  ⟨c.stays h.dev (ht _ (by simp)), c.stays h.lasts (ht _ (by simp)), c.owns h.pend (ht _ (by simp)), c.owns h.keep (ht _ (by simp)), h.sd, h.sg, h.sp, h.ok⟩
theorem DevIs.new (h : DevIs S w d g vP vK D) (c : New w w') : DevIs S w' d g vP vK D :=
  h.move (c.block _ (lt_of_block h.dev) (fun e => e)) (c.block _ (lt_of_block h.lasts) (fun e => e)) (fun k hk => c.block _ (owns_block h.pend hk).2.1 (fun e => e)) (fun k hk => c.block _ (owns_block h.keep hk).2.1 (fun e => e))
theorem DevIs.same (h : DevIs S w d g vP vK D) (e : w'.heap = w.heap) : DevIs S w' d g vP vK D := h.move (by rw [e]) (by rw [e]) (fun _ _ => by rw [e]) (fun _ _ => by rw [e])
theorem DevIs.alloc (h : DevIs S w d g vP vK D) (o : Obj) : DevIs S (w.alloc o) d g vP vK D := h.new ((Chg.refl _ w).alloc o)
theorem DevIs.mono {T : Nat → Prop} (h : DevIs S w d g vP vK D) (hs : ∀ k, k < w.heap.size → S k → T k) : DevIs T w d g vP vK D :=
  ⟨h.dev, h.lasts, h.pend, h.keep, hs _ (lt_of_block h.dev) h.sd, hs _ (lt_of_block h.lasts) h.sg, fun k hk => hs _ (owns_block h.pend hk).2.1 (h.sp k hk), h.ok⟩
theorem DevIs.ne (h : DevIs S w d g vP vK D) : d ≠ g := by
  rintro rfl; have := h.dev; rw [h.lasts] at this; simp at this
theorem DevIs.nep (h : DevIs S w d g vP vK D) : ∀ k, vP.ownBlock = some k → k ≠ d ∧ k ≠ g := by
  intro k hk
  obtain ⟨_, _, c, hc⟩ := owns_block h.pend hk
  constructor <;> rintro rfl
  · have := h.dev; rw [hc] at this; simp at this
  · have := h.lasts; rw [hc] at this; simp at this
theorem DevIs.nek (h : DevIs S w d g vP vK D) : ∀ k, vK.ownBlock = some k → k ≠ d ∧ k ≠ g ∧ vP.ownBlock ≠ some k := by
  intro k hk
  obtain ⟨_, _, c, hc⟩ := owns_block h.keep hk
  refine ⟨?_, ?_, fun e => ?_⟩
  · rintro rfl; have := h.dev; rw [hc] at this; simp at this
  · rintro rfl; have := h.lasts; rw [hc] at this; simp at this
  · obtain ⟨_, _, c', hc'⟩ := owns_block h.pend e; rw [hc'] at hc; simp at hc
end
theorem cells5 {w : World} {g : Nat} {t : TypeId} {x0 x1 x2 x3 x4 : Value} (hg : w.heap[g]? = some (.cells #[x0, x1, x2, x3, x4] t (0, 0))) :
    w.cell? ⟨g, 0, none⟩ = some x0 ∧ w.cell? ⟨g, 1, none⟩ = some x1 ∧ w.cell? ⟨g, 2, none⟩ = some x2 ∧ w.cell? ⟨g, 3, none⟩ = some x3 ∧ w.cell? ⟨g, 4, none⟩ = some x4 ∧ ∀ i, w.frozen? ⟨g, i, none⟩ = false :=
  ⟨by rw [cell_of_row w g 0 _ t _ hg]; rfl, by rw [cell_of_row w g 1 _ t _ hg]; rfl, by rw [cell_of_row w g 2 _ t _ hg]; rfl, by rw [cell_of_row w g 3 _ t _ hg]; rfl, by rw [cell_of_row w g 4 _ t _ hg]; rfl, fun i => frozen_of_row w g i _ t hg⟩
def blank : List UInt8 := List.replicate 64 0
def countOf (k : Int) : Nat := (min (max k 0) 512).toNat
def DevS.new (k : Int) : DevS := ⟨List.replicate (countOf k) blank, [], false, 0, []⟩
theorem info90 : (Try.prog.info? 90).map (fun i => (i.zero, i.size, i.bytes)) = some (some (.agg (Array.replicate 64 (.int .u8 0))), 64, 64) := by kernel_rfl
theorem info92 : (Try.prog.info? 92).map (fun i => (i.zero, i.size, i.bytes)) = some (some (.agg (#[.int .i64 0] ++ Array.replicate 64 (.int .u8 0))), 65, 72) := by kernel_rfl
theorem blanks (n : Nat) : ((List.replicate n blank).map cellV).flatten.toArray = madeCells (Value.agg (Array.replicate 64 (.int .u8 0))).cells (n * 64) := by
  rw [show (Value.agg (Array.replicate 64 (.int .u8 0))).cells = Array.replicate 64 (.int .u8 0) from rfl, madeCells_const _ _ _ (by decide)]
  apply Array.ext'
  have e : cellV blank = List.replicate 64 (.int .u8 0) := by simp only [cellV, blank, List.map_replicate]; rfl
  rw [List.map_replicate, e, List.flatten_replicate_replicate, Array.toList_replicate]
/-- The cells of n blank blocks. -/
def blankRow (n : Nat) : Array Value := ((List.replicate n blank).map cellV).flatten.toArray
theorem mkcells (n : Nat) (hn : n ≤ 512) (w : World) : (Instr.makeSlice 84 (I n) (I n)).run Try.prog w = .ok (.slice (some ⟨w.heap.size, 0, none⟩) n n) (w.alloc (.cells (blankRow n) 90)) := by
  obtain ⟨i, hi, hz, hs, hb⟩ := info_parts info90
  rw [run_make (P := Try.prog) w 84 90 i _ Try.underlying84 hi hz .i64 .i64 n n (by omega) (by omega) (by rw [hb]; omega) (by omega), Int.toNat_natCast, hs, blankRow, blanks]
theorem new_dev (k : Int) (n : Nat) (w : World) (hn : countOf k = n) (S : Nat → Prop) (hS : ∀ k, w.heap.size ≤ k → S k) :
    DevAt S ((w.alloc (.cells (blankRow n) 90)).alloc (.cells #[.slice (some ⟨w.heap.size, 0, none⟩) n n, .slice none 0 0, .bool false, .int .i64 0, .slice none 0 0] 87)) (w.heap.size + 1) (DevS.new k) := by
  subst hn
  refine ⟨w.heap.size, .slice none 0 0, .slice none 0 0, ?_, ?_, World.ownsRow_nil _ _ _ _, World.ownsRow_nil _ _ _ _, hS _ (by omega), hS _ (by omega), fun k hk => (by cases hk), ?_⟩
  · rw [heap_alloc2_new]; simp [DevS.new]
  · rw [heap_alloc2_old]; rfl
  · refine ⟨?_, ?_, ?_, ?_, ?_⟩ <;> simp [DevS.new, blank]
    unfold countOf; omega
theorem New_dev (k : Int) (w : World) (S : Nat → Prop) (hS : ∀ k, w.heap.size ≤ k → S k) : Calls Try.prog 15 #[I k] w fun e w' => e = .returned (.pointer (some ⟨w.heap.size + 1, 0, none⟩)) ∧ DevAt S w' (w.heap.size + 1) (DevS.new k) ∧ New w w' := by
  have h0 : ∀ w, (Instr.makeSlice 84 (.int .i64 0) (.int .i64 0)).run Try.prog w = .ok (.slice (some ⟨w.heap.size, 0, none⟩) 0 0) (w.alloc (.cells (blankRow 0) 90)) := mkcells 0 (by omega)
  have h5 : ∀ w, (Instr.makeSlice 84 (.int .i64 512) (.int .i64 512)).run Try.prog w = .ok (.slice (some ⟨w.heap.size, 0, none⟩) 512 512) (w.alloc (.cells (blankRow 512) 90)) := mkcells 512 (by omega)
  by_cases c1 : k < 0
  · go_enter Try.func15, Try.ntmps15
    go_wp2
    go_ret
    exact ⟨rfl, new_dev k 0 w (by unfold countOf; omega) S hS, ((Chg.refl _ w).alloc _).alloc _⟩
  · by_cases c2 : 512 < k
    · go_enter Try.func15, Try.ntmps15
      go_wp2
      go_ret
      exact ⟨rfl, new_dev k 512 w (by unfold countOf; omega) S hS, ((Chg.refl _ w).alloc _).alloc _⟩
    · obtain ⟨n, rfl⟩ : ∃ n : Nat, k = n := ⟨k.toNat, by omega⟩
      have hn := mkcells n (by omega)
      go_enter Try.func15, Try.ntmps15
      go_wp2
      go_ret
      exact ⟨rfl, new_dev n n w (by unfold countOf; omega) S hS, ((Chg.refl _ w).alloc _).alloc _⟩
def DevS.ready (D : DevS) (i : Int) : Int := if D.down = true then 9 else if 0 ≤ i ∧ i < D.lasts.length then 0 else 7
theorem ready_nil (i : Int) (w : World) : Calls Try.prog 52 #[.pointer none, I i] w fun e w' => e = .returned (I 11) ∧ w = w' := by
  go_enter Try.func52, Try.ntmps52
  go_wp2
  go_ret
  exact ⟨rfl, rfl⟩
theorem ready_t {S : Nat → Prop} {w : World} {d g : Nat} {vP vK : Value} {D : DevS} (h : DevIs S w d g vP vK D) (i : Int) : Calls Try.prog 52 #[.pointer (some ⟨d, 0, none⟩), I i] w fun e w' => e = .returned (I (D.ready i)) ∧ w = w' := by
  obtain ⟨h0, h1, h2, h3, h4, hf⟩ := cells5 h.dev
  have hm := h.ok.most
  unfold DevS.ready
  cases hd : D.down
  · rw [hd] at h2
    clear hd h
    generalize D.lasts.length = n at *
    by_cases c1 : i < 0
    · go_enter Try.func52, Try.ntmps52
      go_wp2
      go_ret
      exact ⟨rfl, rfl⟩
    · by_cases c2 : i < n
      · go_enter Try.func52, Try.ntmps52
        go_wp2
        go_ret
        exact ⟨rfl, rfl⟩
      · go_enter Try.func52, Try.ntmps52
        go_wp2
        go_ret
        exact ⟨rfl, rfl⟩
  · rw [hd] at h2
    clear hd h
    go_enter Try.func52, Try.ntmps52
    go_wp2
    go_ret
    exact ⟨rfl, rfl⟩
end Go.Proofs.Ytjlmbmamkhneiaa
