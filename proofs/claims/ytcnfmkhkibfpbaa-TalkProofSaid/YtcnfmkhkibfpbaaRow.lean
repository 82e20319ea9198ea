/- From what a row's proof is told of its arguments to the words of the walks. -/
import Derived.Test.YtcnfmkhkibfpbaaMem
import Derived.ProofKit
namespace Go.Proofs.Ytcnfmkhkibfpbaa
open Go Go.RowKit
theorem rd_of_row {w : World} {a : Option Addr} {len cap : Nat} {zs : List Int}
    (h : (a = none ∧ len = 0 ∧ cap = 0 ∧ zs = []) ∨
      ∃ x, a = some x ∧ len ≤ cap ∧ cap ≤ maxLen ∧ zs.length = cap ∧ (∀ i, i < zs.length → w.cell? (x.add i) = some (.int .u8 (zs.getD i 0))) ∧ ∀ n ∈ zs, (Lit.int .u8 n).wf = true) :
    Rd w (.slice a len cap) ((zs.take len).map fun n => UInt8.ofNat n.toNat) := by
  rcases h with ⟨rfl, rfl, rfl, rfl⟩ | ⟨x, rfl, hl, hm, hz, hcell, hwf⟩
  · exact Rd.nil w
  · have hlen : ((zs.take len).map fun n => UInt8.ofNat n.toNat).length = len := by rw [List.length_map, List.length_take]; omega
    refine ⟨some x, cap, by rw [hlen], by omega, hm, fun j u hu => ?_⟩
    have hj : j < len := by rw [← hlen]; exact (List.getElem?_eq_some_iff.1 hu).1
    rw [List.getElem?_map, List.getElem?_take_of_lt hj, List.getElem?_eq_getElem (by omega), Option.map_some, Option.some.injEq] at hu
    subst hu
    have hc := hcell j (by omega)
    have hn := hwf zs[j] (List.getElem_mem _)
    rw [List.getD_eq_getElem?_getD, List.getElem?_eq_getElem (by omega), Option.getD_some] at hc
    have hr : 0 ≤ zs[j] ∧ zs[j] ≤ 255 := by simpa [Lit.wf, IntKind.min, IntKind.max, IntKind.signed, IntKind.bits] using hn
    have h0 := hcell 0 (by omega)
    obtain ⟨g, off, sp⟩ := x
    have hsp : sp = none := by
      cases sp with
      | none => rfl
      | some s => simp [Addr.add, World.cell?] at h0; split at h0 <;> simp at h0
    subst hsp
    refine ⟨g, off, rfl, ?_⟩
    rw [Addr.add_lit] at hc
    rw [hc]
    have e : ((UInt8.ofNat zs[j].toNat).toNat : Int) = zs[j] := by
      rw [UInt8.toNat_ofNat_of_lt' (show zs[j].toNat < 256 by omega)]; omega
    show _ = some (Value.int .u8 _)
    rw [e]
theorem u64_of {a : Int} (h : (Lit.int .u64 a).wf = true) : Value.int .u64 a = U64 (BitVec.ofNat 64 a.toNat) := by
  have hr : 0 ≤ a ∧ a ≤ 18446744073709551615 := by simpa [Lit.wf, IntKind.min, IntKind.max, IntKind.signed, IntKind.bits] using h
  exact vi (n64_of a hr.1 hr.2).symm
end Go.Proofs.Ytcnfmkhkibfpbaa
