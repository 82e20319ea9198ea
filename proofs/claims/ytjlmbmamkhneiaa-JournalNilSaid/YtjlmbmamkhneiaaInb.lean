/- The walks of In.Bytes, In.Err, reader.word. -/
import Derived.Test.YtjlmbmamkhneiaaIna
namespace Go.Proofs.Ytjlmbmamkhneiaa
open Go Go.RowKit
set_option maxRecDepth 100000

theorem err_t (w : World) (q : Nat) (vb : Value) (bs : List UInt8) (a : Nat) (h : InAt w q vb bs a) :
    Calls Try.prog 90 #[.pointer (some ⟨q, 0, none⟩)] w fun e w' => e = .returned (.int .i64 0) ∧ w = w' := by
  obtain ⟨c0, c1, c2, cf⟩ := cells3 h.cells
  clear h c0 c1
  go_enter Try.func90, Try.ntmps90
  go_wp2
  go_ret
  exact ⟨rfl, rfl⟩
theorem InAt.alloc {w : World} {q : Nat} {vb : Value} {bs : List UInt8} {a : Nat} (h : InAt w q vb bs a) (o : Obj) : InAt (w.alloc o) q vb bs a :=
  ⟨(Below.heap_alloc w o q (lt_of_block h.cells)).trans h.cells, h.rd.alloc o, h.ne, h.few⟩
theorem byteN : ∀ c : Fin 256, 2 * (2 * (2 * (2 * (2 * (2 * (2 * (2 * 0 + c.val / 2 ^ (7 - 0) % 2) + c.val / 2 ^ (7 - 1) % 2) + c.val / 2 ^ (7 - 2) % 2) + c.val / 2 ^ (7 - 3) % 2) + c.val / 2 ^ (7 - 4) % 2) + c.val / 2 ^ (7 - 5) % 2) + c.val / 2 ^ (7 - 6) % 2) + c.val / 2 ^ (7 - 7) % 2 = c.val := by decide
theorem inV_byte (bs : List UInt8) (j : Nat) (h : j < bs.length) : inV bs (8 * j) 8 = bs[j].toNat := by
  have hb : ∀ i, i < 8 → bitN bs (8 * j + i) = bs[j].toNat / 2 ^ (7 - i) % 2 := by
    intro i hi
    unfold bitN
    rw [show (8 * j + i) / 8 = j by omega, show (8 * j + i) % 8 = i by omega, List.getD_eq_getElem?_getD, List.getElem?_eq_getElem h]; rfl
  have hu := bs[j].toNat_lt
  simp only [inV]
  rw [hb 0 (by omega), hb 1 (by omega), hb 2 (by omega), hb 3 (by omega), hb 4 (by omega), hb 5 (by omega), hb 6 (by omega), hb 7 (by omega)]
  exact byteN ⟨bs[j].toNat, hu⟩
/-- The number that m bytes are, the highest first. -/
def beV : List UInt8 → Nat := fun l => l.foldl (fun v u => 256 * v + u.toNat) 0
theorem inV_add (bs : List UInt8) (a m : Nat) : ∀ n, inV bs a (m + n) = 2 ^ n * inV bs a m + inV bs (a + m) n
  | 0 => by simp [inV]
  | n + 1 => by
    have := inV_add bs a m n
    show 2 * inV bs a (m + n) + bitN bs (a + (m + n)) = _
    rw [this]
    show _ = 2 ^ (n + 1) * inV bs a m + (2 * inV bs (a + m) n + bitN bs (a + m + n))
    rw [Nat.pow_succ, Nat.add_assoc a m n, Nat.mul_add, Nat.mul_assoc, Nat.mul_left_comm]; omega
theorem inV_bytes (bs : List UInt8) (j : Nat) : ∀ m, j + m ≤ bs.length → inV bs (8 * j) (8 * m) = beV ((bs.drop j).take m)
  | 0, _ => by simp [inV, beV]
  | m + 1, h => by
    have ih := inV_bytes bs j m (by omega)
    have hj : j + m < bs.length := by omega
    have hd : m < (bs.drop j).length := by simp; omega
    rw [Nat.mul_succ, inV_add, ih, ← Nat.mul_add, inV_byte bs (j + m) hj, take_snoc hd]
    simp [beV, List.foldl_append]
set_option maxHeartbeats 4000000 in
theorem word_t (w : World) (q : Nat) (vb : Value) (bs : List UInt8) (j : Nat) (h : InAt w q vb bs (8 * j)) (hn : j + 4 ≤ bs.length) :
    Calls Try.prog 79 #[.agg #[.pointer (some ⟨q, 0, none⟩)]] w fun e w' => e = .returned (.int .u32 (beV ((bs.drop j).take 4))) ∧ InAt w' q vb bs (8 * (j + 4)) ∧ Chg (fun k => k = q) w w' := by
  have hv : inV bs (8 * j) (8 * 4) = beV ((bs.drop j).take 4) := inV_bytes bs j 4 hn
  have hlt := inV_lt bs (8 * j) 32
  have H := hid h
  clear h
  go_enter Try.func79, Try.ntmps79
  go_wp2_with fail
  refine (inBits_t _ q vb bs (8 * j) 32 (H.out.alloc _) (by omega) (by omega) (by omega)).mono ?_
  rintro e w1 ⟨rfl, hi, hc⟩
  have HI := hid hi
  have HC := hid hc
  clear hi hc
  have hw : IntKind.u32.wrap ((inV bs (8 * j) 32 : Nat) : Int) = ((inV bs (8 * j) 32 : Nat) : Int) := by rw [IntKind.wrap_u32]; omega
  go_wp2_with fail
  go_ret
  refine ⟨?_, ?_, ?_⟩
  · rw [← hv]; exact vr (vi (by rw [← IntKind.wrap_u32]; exact hw))
  · exact HI.out
  · exact ((Chg.refl _ w).alloc _).trans HC.out fun _ _ e => e
end Go.Proofs.Ytjlmbmamkhneiaa
