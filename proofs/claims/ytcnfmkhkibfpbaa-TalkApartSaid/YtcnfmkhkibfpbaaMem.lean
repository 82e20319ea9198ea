/- Small words on memory that the walks of this seat share: bytes and words as values, a slice that reads as a list of bytes, a list of such slices. -/
import Derived.WalkKit
import Derived.WalkSpells
import Derived.WalkLawsBesides
import Derived.StillTailTactics
import Derived.BigQuiet
import Derived.Deep.QuietTactic
namespace Go.Proofs.Ytcnfmkhkibfpbaa
open Go Go.RowKit

theorem hid {p : Prop} (h : p) : Hid p := h
theorem vi {k : IntKind} {a b : Int} (h : a = b) : Value.int k a = .int k b := by rw [h]
theorem vr {v u : Value} (h : v = u) : Ending.returned v = .returned u := by rw [h]
theorem take_snoc {α : Type} {l : List α} {k : Nat} (h : k < l.length) : l.take (k + 1) = l.take k ++ [l[k]] := by
  rw [List.take_succ_eq_append_getElem h]
/-- A byte as a value. -/
abbrev B (u : UInt8) : Value := .int .u8 (u.toNat : Int)

/-- A word of 64 bits as a number. -/
def n64 (x : BitVec 64) : Int := (x.toNat : Int)
theorem n64_range (x : BitVec 64) : 0 ≤ n64 x ∧ n64 x ≤ 18446744073709551615 := ⟨by unfold n64; omega, by have := x.isLt; unfold n64; omega⟩
theorem n64_of (n : Int) (h0 : 0 ≤ n) (h1 : n ≤ 18446744073709551615) : n64 (BitVec.ofNat 64 n.toNat) = n := by
  unfold n64; simp only [BitVec.toNat_ofNat]; omega
abbrev U64 (x : BitVec 64) : Value := .int .u64 (n64 x)

theorem u64_xor_bv (x y : BitVec 64) : bits .xor .u64 (n64 x) (n64 y) = n64 (x ^^^ y) := by
  unfold n64; rw [u64_xor_nat _ _ x.isLt y.isLt, BitVec.toNat_xor]
theorem u64_or_bv (x y : BitVec 64) : bits .or .u64 (n64 x) (n64 y) = n64 (x ||| y) := by
  unfold n64; rw [u64_or_nat _ _ x.isLt y.isLt, BitVec.toNat_or]
theorem u64_add_bv (x y : BitVec 64) : IntKind.u64.wrap (n64 x + n64 y) = n64 (x + y) := by
  unfold n64; simp [IntKind.wrap, IntKind.bits, IntKind.signed]
theorem u64_add_bv' (x y : BitVec 64) : (n64 x + n64 y) % 18446744073709551616 = n64 (x + y) := by
  unfold n64; simp
theorem u64_shl_bv (x : BitVec 64) (k : Nat) : IntKind.u64.wrap (n64 x * 2 ^ k) = n64 (x <<< k) := by
  unfold n64; simp [IntKind.wrap, IntKind.bits, IntKind.signed, Nat.shiftLeft_eq]
theorem u64_shr_bv (x : BitVec 64) (k : Nat) : n64 x / 2 ^ k = n64 (x >>> k) := by
  unfold n64; simp [Nat.shiftRight_eq_div_pow]
theorem rot_bv (x : BitVec 64) (k : Nat) : bits .or .u64 (IntKind.u64.wrap (n64 x * 2 ^ k)) (n64 x / 2 ^ (64 - k)) = n64 (x <<< k ||| x >>> (64 - k)) := by
  rw [u64_shl_bv, u64_shr_bv, u64_or_bv]

/-- 'v' is a slice of bytes that reads 'bs' in w. -/
def Rd (w : World) (v : Value) (bs : List UInt8) : Prop :=
  ∃ a c, v = .slice a bs.length c ∧ bs.length ≤ c ∧ c ≤ maxLen ∧ ∀ j u, bs[j]? = some u → ∃ g off, a = some ⟨g, off, none⟩ ∧ w.cell? ⟨g, off + j, none⟩ = some (B u)

/-- 'v' is a slice of slices of bytes. -/
def RdS (w : World) (v : Value) (bss : List (List UInt8)) : Prop :=
  ∃ a c, v = .slice a bss.length c ∧ bss.length ≤ c ∧ c ≤ maxLen ∧ ∀ j b, bss[j]? = some b → ∃ g off s, a = some ⟨g, off, none⟩ ∧ w.cell? ⟨g, off + j, none⟩ = some s ∧ Rd w s b

section
variable {w w' : World} {v : Value} {bs : List UInt8}
theorem lt_of_cell {g i : Nat} {u : Value} (h : w.cell? ⟨g, i, none⟩ = some u) : g < w.heap.size := block_lt_of_cell h
theorem Rd.move (h : Rd w v bs) (hm : ∀ g, v.ownBlock = some g → g < w.heap.size → w'.heap[g]? = w.heap[g]?) : Rd w' v bs := by
  obtain ⟨a, c, rfl, h1, h2, h3⟩ := h
  refine ⟨a, c, rfl, h1, h2, fun j u hu => ?_⟩
  obtain ⟨g, off, rfl, hc⟩ := h3 j u hu
  exact ⟨g, off, rfl, (World.cell?_of_block (hm g rfl (lt_of_cell hc))).trans hc⟩
theorem Rd.below (h : Rd w v bs) (hb : Below w.heap.size w w') : Rd w' v bs := h.move fun g _ hg => hb.block g hg
theorem Rd.drew (h : Rd w v bs) : Rd w.drew v bs := h.move fun _ _ _ => rfl
theorem Rd.alloc (h : Rd w v bs) (o : Obj) : Rd (w.alloc o) v bs := h.move fun g _ hg => Below.heap_alloc w o g hg
theorem Rd.nil (w : World) : Rd w (.slice none 0 0) [] := ⟨none, 0, rfl, Nat.le_refl _, by simp [maxLen], fun j u h => by simp at h⟩
theorem RdS.move {bss : List (List UInt8)} (h : RdS w v bss) (hm : ∀ g, g < w.heap.size → w'.heap[g]? = w.heap[g]?) : RdS w' v bss := by
  obtain ⟨a, c, rfl, h1, h2, h3⟩ := h
  refine ⟨a, c, rfl, h1, h2, fun j u hu => ?_⟩
  obtain ⟨g, off, s, rfl, hc, hr⟩ := h3 j u hu
  exact ⟨g, off, s, rfl, (World.cell?_of_block (hm g (lt_of_cell hc))).trans hc, hr.move fun g _ hg => hm g hg⟩
theorem RdS.below {bss : List (List UInt8)} (h : RdS w v bss) (hb : Below w.heap.size w w') : RdS w' v bss := h.move fun g hg => hb.block g hg
/-- A row of one's own that holds bytes reads as they are. -/
theorem Rd.of_owns {base : Nat} {e : TypeId} (h : w.ownsRow base e 1 v bs.length (bs.map B)) : Rd w v bs := by
  rcases h.2 with ⟨rfl, hn⟩ | ⟨g, cap, cur, rfl, hbg, hg, hnc, hcm, hcs, htake⟩
  · rw [List.length_eq_zero_iff.1 hn]; exact Rd.nil w
  · refine ⟨some ⟨g, 0, none⟩, cap, rfl, hnc, hcm, fun j u hu => ⟨g, 0, rfl, ?_⟩⟩
    rw [cell_of_row w g _ cur e (0, 0) hg, Nat.zero_add]
    have : (cur.toList.take (bs.length * 1))[j]? = some (B u) := by rw [htake]; simp [hu]
    rw [List.getElem?_take] at this
    split at this
    · simpa using this
    · cases this
end
end Go.Proofs.Ytcnfmkhkibfpbaa
