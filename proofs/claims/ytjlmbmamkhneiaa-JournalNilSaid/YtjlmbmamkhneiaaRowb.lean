/- From what a row's proof is told of its arguments to the words of the walks: slices of whole numbers, of bytes, of Booleans, of slices of bytes. -/
import Derived.Test.YtjlmbmamkhneiaaProg
import Derived.Test.YtjlmbmamkhneiaaMem
import Derived.ProofKit
import Derived.OpenShut
import Derived.Deep.Grids
import Derived.Deep.Matrix
namespace Go.Proofs.Ytjlmbmamkhneiaa
open Go Go.RowKit Go.ChangeShapes Go.WideShapes Go.Deep
theorem spot_none {w : World} {x : Addr} {u : Value} (h : w.cell? (x.add 0) = some u) : x = ⟨x.block, x.off, none⟩ := by
  obtain ⟨g, off, sp⟩ := x
  cases sp with
  | none => rfl
  | some s =>
    exfalso
    simp [Addr.add, World.cell?] at h
    split at h <;> simp at h
/-- A slice whose cells are known at 'x.add i'. -/
theorem rdV_addr {w : World} {x : Addr} {len cap : Nat} {xs : List Value} (hl : len ≤ cap) (hm : cap ≤ maxLen) (hx : xs.length = len) (hc : ∀ i u, xs[i]? = some u → w.cell? (x.add i) = some u) : RdV w (.slice (some x) len cap) xs := by
  refine ⟨some x, cap, by rw [hx], by omega, hm, fun j u hu => ?_⟩
  have h := hc j u hu
  have hj := (List.getElem?_eq_some_iff.1 hu).1
  have e := spot_none (hc 0 _ (List.getElem?_eq_getElem (by omega)))
  refine ⟨x.block, x.off, by rw [← e], ?_⟩
  rw [e, Addr.add_lit] at h
  exact h
theorem range_get {α : Type} {f : Nat → α} {n i : Nat} {u : α} (h : ((List.range n).map f)[i]? = some u) : i < n ∧ u = f i := by
  obtain ⟨h1, h2⟩ := List.getElem?_eq_some_iff.1 h
  have hi : i < n := by simpa using h1
  exact ⟨hi, by rw [← h2]; simp⟩
section
variable {H : Type} {enc : TypeId × Value → H} {w : World} {base : Nat} {held : Bool}
theorem ints_of {a : Option Addr} {len cap : Nat} {d : DataW H} {ps : List MemPlace} (h : DataW.Trod enc Try.prog w base (fun _ => true) held 24 (.slice a len cap) d ps) :
    ∃ zs : List Int, RdI w (.slice a len cap) zs ∧ ∀ z ∈ zs, (Lit.int .i64 z).wf = true := by
  obtain ⟨fuel, hf⟩ := h
  rcases open_ints Try.underlying24 Try.underlying3 (by kernel_rfl) hf with ⟨hcs, _⟩ | ⟨x, l, c, zs, hcs, _, hl, hm, hz, _, hcell, hwz⟩
  · simp [Value.cells] at hcs
    obtain ⟨rfl, rfl, rfl⟩ := hcs
    exact ⟨[], RdV.nil w, by simp⟩
  · simp [Value.cells] at hcs
    obtain ⟨rfl, rfl, rfl⟩ := hcs
    have hz' : zs.length = cap := by simpa using hz
    refine ⟨zs.take len, rdV_addr hl hm (by simp; omega) (fun i u hu => ?_), fun z hz => hwz z (List.mem_of_mem_take hz)⟩
    rw [List.getElem?_map, List.getElem?_take] at hu
    by_cases hi : i < len
    · rw [if_pos hi, List.getElem?_eq_getElem (by omega)] at hu
      have := hcell i (by omega)
      rw [List.getD_eq_getElem?_getD, List.getElem?_eq_getElem (by omega), Option.getD_some] at this
      simp only [Option.map_some, Option.some.injEq] at hu
      rw [← hu]; exact this
    · rw [if_neg hi] at hu; cases hu
theorem byte_val {z : Int} (hz : (Lit.int .u8 z).wf = true) : Value.int .u8 z = B (UInt8.ofNat z.toNat) := by
  have hr : 0 ≤ z ∧ z ≤ 255 := by simpa [Lit.wf, IntKind.min, IntKind.max, IntKind.signed, IntKind.bits] using hz
  show _ = Value.int .u8 _
  rw [UInt8.toNat_ofNat_of_lt' (show z.toNat < 256 by omega)]
  congr 1; omega
theorem row_bytes {x : Addr} {len cap : Nat} {zs : List Int} (hl : len ≤ cap) (hm : cap ≤ maxLen) (hz : zs.length = cap) (hcell : ∀ i, i < zs.length → w.cell? (x.add i) = some (.int .u8 (zs.getD i 0))) (hwz : ∀ z ∈ zs, (Lit.int .u8 z).wf = true) :
    Rd w (.slice (some x) len cap) ((zs.take len).map fun z => UInt8.ofNat z.toNat) := by
  refine rdV_addr hl hm (by simp; omega) (fun i u hu => ?_)
  rw [List.getElem?_map, List.getElem?_map, List.getElem?_take] at hu
  by_cases hi : i < len
  · rw [if_pos hi, List.getElem?_eq_getElem (by omega)] at hu
    have := hcell i (by omega)
    rw [List.getD_eq_getElem?_getD, List.getElem?_eq_getElem (by omega), Option.getD_some] at this
    simp only [Option.map_some, Option.some.injEq] at hu
    rw [← hu, ← byte_val (hwz _ (List.getElem_mem _))]; exact this
  · rw [if_neg hi] at hu; cases hu
theorem bytes_of {a : Option Addr} {len cap : Nat} {d : DataW H} {ps : List MemPlace} (h : DataW.Trod enc Try.prog w base (fun _ => true) held 22 (.slice a len cap) d ps) :
    ∃ bs : List UInt8, Rd w (.slice a len cap) bs := by
  obtain ⟨fuel, hf⟩ := h
  rcases open_ints Try.underlying22 Try.underlying5 (by kernel_rfl) hf with ⟨hcs, _⟩ | ⟨x, l, c, zs, hcs, _, hl, hm, hz, _, hcell, hwz⟩
  · simp [Value.cells] at hcs
    obtain ⟨rfl, rfl, rfl⟩ := hcs
    exact ⟨[], RdV.nil w⟩
  · simp [Value.cells] at hcs
    obtain ⟨rfl, rfl, rfl⟩ := hcs
    have hz' : zs.length = cap := by simpa using hz
    exact ⟨_, row_bytes hl hm hz' hcell hwz⟩
theorem bools_of {a : Option Addr} {len cap : Nat} {d : DataW H} {ps : List MemPlace} (h : DataW.Trod enc Try.prog w base (fun _ => true) held 47 (.slice a len cap) d ps) :
    ∃ l : List Bool, RdV w (.slice a len cap) (l.map Value.bool) := by
  obtain ⟨fuel, hf⟩ := h
  rcases open_bools Try.underlying47 Try.underlying4 (by kernel_rfl) hf with ⟨hcs, _⟩ | ⟨x, l, c, Bf, hcs, _, hl, hm, _, hcell⟩
  · simp [Value.cells] at hcs
    obtain ⟨rfl, rfl, rfl⟩ := hcs
    exact ⟨[], RdV.nil w⟩
  · simp [Value.cells] at hcs
    obtain ⟨rfl, rfl, rfl⟩ := hcs
    refine ⟨(List.range len).map Bf, rdV_addr hl hm (by simp) (fun i u hu => ?_)⟩
    rw [List.map_map] at hu
    obtain ⟨hi, rfl⟩ := range_get hu
    exact hcell i (by omega)
/-- A slice of slices of bytes reads as a list of lists. -/
def RdS (w : World) (v : Value) (bss : List (List UInt8)) : Prop := ∃ vs : List Value, RdV w v vs ∧ vs.length = bss.length ∧ ∀ (i : Nat) (u : Value) (b : List UInt8), vs[i]? = some u → bss[i]? = some b → Rd w u b
theorem rows_of {a : Option Addr} {len cap : Nat} {d : DataW H} {ps : List MemPlace} (h : DataW.Trod enc Try.prog w base (fun _ => true) held 23 (.slice a len cap) d ps) :
    ∃ bss : List (List UInt8), RdS w (.slice a len cap) bss := by
  obtain ⟨fuel, hf⟩ := h
  rcases open_int_rows Try.underlying23 Try.underlying22 Try.underlying5 (by kernel_rfl) (by kernel_rfl) hf with ⟨hcs, _⟩ | ⟨x, l, c, A, L, C, Z, hcs, _, hl, hm, _, hr⟩
  · simp [Value.cells] at hcs
    obtain ⟨rfl, rfl, rfl⟩ := hcs
    exact ⟨[], [], RdV.nil w, rfl, fun i u b hu => by simp at hu⟩
  · simp [Value.cells] at hcs
    obtain ⟨rfl, rfl, rfl⟩ := hcs
    refine ⟨(List.range len).map fun r => ((Z r).take (L r)).map fun z => UInt8.ofNat z.toNat, (List.range len).map fun r => .slice (A r) (L r) (C r), rdV_addr hl hm (by simp) (fun i u hu => ?_), by simp, fun i u b hu hb => ?_⟩
    · obtain ⟨hi, rfl⟩ := range_get hu
      exact (hr i (by omega)).1
    · obtain ⟨hi, rfl⟩ := range_get hu
      obtain ⟨_, rfl⟩ := range_get hb
      obtain ⟨_, h2, h3, h4, h5, h6, h7⟩ := hr i (by omega)
      cases hA : A i with
      | none =>
        have h0 := h6 hA
        have e1 : L i = 0 := by omega
        rw [e1, h0, List.take_zero]
        exact RdV.nil w
      | some x' => exact row_bytes h2 h3 h4 (fun j hj => (h7 x' hA).2 j (by omega)) h5
end
end Go.Proofs.Ytjlmbmamkhneiaa
