/- The walk of the document's Num, and of its Proof. -/
import Derived.Test.YtcnfmkhkibfpbaaTalk
import Derived.Test.YtcnfmkhkibfpbaaRTag
import Derived.Lib.AppendStr
namespace Go.Proofs.Ytcnfmkhkibfpbaa
open Go Go.RowKit
/-- The last t of n bytes of x. -/
def numS (n x t : Nat) : List UInt8 := (List.range n).map fun j => if n ≤ j + t then UInt8.ofNat (x / 256 ^ (n - 1 - j) % 256) else 0
theorem numS_len (n x t : Nat) : (numS n x t).length = n := by simp [numS]
theorem numS_zero (n x : Nat) : (numS n x 0).map B = List.replicate n (.int .u8 0) := by
  apply List.ext_getElem?
  intro j
  by_cases hj : j < n
  · simp [numS, hj, show ¬ n ≤ j by omega]
  · simp [numS, hj]
theorem numS_all (n x : Nat) : numS n x n = be n x := by
  unfold numS be
  apply List.map_congr_left
  intro j hj
  rw [if_pos (by omega)]
theorem numS_step (n x t : Nat) (ht : t < n) : (numS n x t).set (n - 1 - t) (UInt8.ofNat (x / 256 ^ t % 256)) = numS n x (t + 1) := by
  apply List.ext_getElem?
  intro j
  by_cases hj : j < n
  · by_cases e : j = n - 1 - t
    · subst e
      rw [List.getElem?_set_self (by rw [numS_len]; exact hj)]
      simp [numS, hj]
      rw [if_pos (by omega), show n - 1 - (n - 1 - t) = t by omega]
    · rw [List.getElem?_set_ne (Ne.symm e)]
      simp [numS, hj]
      by_cases h : n ≤ j + t
      · rw [if_pos h, if_pos (by omega)]
      · rw [if_neg h, if_neg (by omega)]
  · rw [List.getElem?_eq_none (by rw [List.length_set, numS_len]; omega), List.getElem?_eq_none (by rw [numS_len]; omega)]
set_option maxHeartbeats 4000000 in
theorem num_t (n x : Nat) (hn : n ≤ 8) (hx : x < 18446744073709551616) (w : World) :
    Calls Try.prog 40 #[.int .i64 n, .int .u64 x] w fun e w' => ∃ v, e = .returned v ∧ w'.ownsRow w.heap.size 5 1 v n ((be n x).map B) ∧ Chg (fun _ => False) w w' := by
  obtain ⟨i, hi, hiz, his, hib⟩ := T22.info
  obtain ⟨w1, hmk, hown, hg⟩ := run_make_full (P := Try.prog) w w.heap.size 22 5 i (.int .u8 0) 1 T22.under hi hiz his .i64 .i64 n (by rw [hib]; omega) (by unfold maxLen; omega) (Nat.le_refl _)
  have hcells : (madeCells (Value.int .u8 0).cells (n * 1)).toList = (numS n x 0).map B := by
    rw [numS_zero, Nat.mul_one]; exact toList_madeCells_one _ _
  rw [hcells] at hown
  have HO := hid hown
  have HC := hid (show Chg (fun _ => False) w w1 from (Chg.refl _ w).grown hg (fun k hk => by cases hk))
  clear hown hg hcells
  go_enter Try.func40, Try.ntmps40
  go_wp2_with fail
  go_loopw [1, 6] (fun y j wr => ∃ t : Nat, t ≤ n ∧ j = .int .i64 ((n : Int) - 1 - t) ∧ y = .int .u64 (x / 256 ^ t : Nat) ∧ wr.ownsRow w.heap.size 5 1 (.slice (some ⟨w.heap.size, 0, none⟩) n n) n ((numS n x t).map B) ∧ Chg (fun _ => False) w wr) (fun _ j _ => (intOf j + 1).toNat)
  case atStart => exact ⟨0, by omega, by go_num, by simp, HO.out, HC.out⟩
  case round =>
    obtain ⟨t, ht, rfl, rfl, hown, hc⟩ := hrel
    have HO2 := hid hown
    have HC2 := hid hc
    have hxx : x / 256 ^ t < 18446744073709551616 := Nat.lt_of_le_of_lt (Nat.div_le_self _ _) hx
    have HS := hid (show x / 256 ^ (t + 1) = x / 256 ^ t / 256 by rw [Nat.pow_succ, Nat.div_div_eq_div_mul])
    clear hown hc
    by_cases htl : t < n
    · have HST := hid (numS_step n x t htl)
      have hfz := HO2.out.frozenAt (n - 1 - t)
      have hcl : wr.cell? ⟨w.heap.size, n - 1 - t, none⟩ = some (B ((numS n x t)[n - 1 - t]'(by rw [numS_len]; omega))) := by
        have := HO2.out.cellAt (n - 1 - t) (by omega)
        rw [this, List.getElem?_map, List.getElem?_eq_getElem (by rw [numS_len]; omega)]; rfl
      generalize x / 256 ^ t = y at *
      have hst := HO2.out.stored (n - 1 - t) (B (UInt8.ofNat (y % 256)))
      rw [← List.map_set, HST.out] at hst
      have HST2 := hid hst
      have hbv : ((UInt8.ofNat (y % 256)).toNat : Int) = (y : Int) % 256 := by rw [UInt8.toNat_ofNat_of_lt' (show y % 256 < 256 by omega)]; omega
      have HBV := hid hbv
      clear hst hbv
      generalize (numS n x t)[n - 1 - t]'(by rw [numS_len]; omega) = u at *
      go_wp2
      have hval : Value.int .u8 ((y : Int) % 256) = B (UInt8.ofNat (y % 256)) := by show _ = Value.int .u8 _; rw [HBV.out]
      rw [hval]
      refine ⟨⟨t + 1, by omega, by go_num, vi (by rw [HS.out]; omega), HST2.out.1, HC2.out.setCell (fun h => absurd h (Nat.lt_irrefl _)) _⟩, by simp [intOf]; omega⟩
    · obtain rfl : t = n := by omega
      rw [numS_all] at HO2
      go_wp2
      go_ret
      exact ⟨_, rfl, HO2.out, HC2.out⟩
end Go.Proofs.Ytcnfmkhkibfpbaa
