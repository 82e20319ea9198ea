/- The walks of the laws of layer 3. -/
import Derived.Test.YtcnfmkhkibfpbaaAwk
import Derived.Test.YtcnfmkhkibfpbaaSumP
import Derived.Test.YtcnfmkhkibfpbaaTagP
namespace Go.Proofs.Ytcnfmkhkibfpbaa
open Go Go.RowKit

theorem len300 (bs : List UInt8) : (bs.take 300).length ≤ 1048576 := by rw [List.length_take]; omega
theorem flat1 (bs : List UInt8) : [bs].flatten = bs := by simp

theorem Rd.shape {w : World} {v : Value} {bs : List UInt8} (h : Rd w v bs) : ∃ a c, v = .slice a bs.length c := by
  obtain ⟨a, c, rfl, _⟩ := h; exact ⟨a, c, rfl⟩

theorem sumNet_t (v : Value) (bs : List UInt8) (W : World) (hr : Rd W v bs) :
    Calls Try.prog 3 #[v] W fun e w' => e = .returned (.bool true) ∧ Below W.heap.size W w' := by
  go_enter Try.func3, Try.ntmps3
  go_wp2_with fail
  refine (short_t v bs _ hr).mono ?_
  rintro e w' ⟨⟨v', rfl, hr'⟩, rfl⟩
  clear hr
  have hl := len300 bs
  generalize bs.take 300 = b3 at *
  have HR := hid hr'
  obtain ⟨a, c, rfl⟩ := hr'.shape
  clear hr'
  go_wp2_with fail
  refine (net_t _ [b3] _ (rdS_one 22 HR.out) (by rw [flat1]; exact hl)).mono ?_
  rintro e w2 ⟨rfl, hbl⟩
  rw [flat1]
  have HB := hid (Below.trans ((Below.refl _ W).alloc (Nat.le_refl _) _) (hbl.mono (by simp)))
  clear hbl
  go_wp2_with fail
  refine (rnet_t _ b3 _ (HR.out.below HB.out) hl).mono ?_
  rintro e w3 ⟨rfl, rfl⟩
  rw [← net_eq]
  generalize bits .xor .u16 65535 (netI 0 0 b3) = x at *
  go_wp2_with fail
  refine (awake_t _).mono ?_
  rintro e w3 ⟨rfl, hbl⟩
  have HB2 := hid (HB.out.trans (hbl.mono HB.out.size))
  clear hbl
  go_wp2
  go_ret
  exact ⟨rfl, HB2.out⟩

theorem sumCrc_t (v : Value) (bs : List UInt8) (W : World) (hr : Rd W v bs) :
    Calls Try.prog 4 #[v] W fun e w' => e = .returned (.bool true) ∧ Below W.heap.size W w' := by
  go_enter Try.func4, Try.ntmps4
  go_wp2_with fail
  refine (short_t v bs _ hr).mono ?_
  rintro e w' ⟨⟨v', rfl, hr'⟩, rfl⟩
  clear hr
  have hl := len300 bs
  generalize bs.take 300 = b3 at *
  have HR := hid hr'
  obtain ⟨a, c, rfl⟩ := hr'.shape
  clear hr'
  go_wp2_with fail
  refine (crc_t _ _ [b3] (rdS_one 22 HR.out)).mono ?_
  rintro e w2 ⟨rfl, rfl⟩
  rw [flat1]
  have HB := hid ((Below.refl _ W).alloc (Nat.le_refl _) (.cells #[.slice a b3.length c] 22))
  go_wp2_with fail
  refine (rcrc_t _ b3 _ (HR.out.below HB.out)).mono ?_
  rintro e w3 ⟨rfl, rfl⟩
  rw [← crc_eq]
  generalize bits .xor .u32 4294967295 (crcI 4294967295 b3) = x at *
  go_wp2_with fail
  refine (awake_t _).mono ?_
  rintro e w3 ⟨rfl, hbl⟩
  have HB2 := hid (HB.out.trans (hbl.mono HB.out.size))
  clear hbl
  go_wp2
  go_ret
  exact ⟨rfl, HB2.out⟩

theorem sumTag_t (x y : BitVec 64) (v : Value) (bs : List UInt8) (W : World) (hr : Rd W v bs) :
    Calls Try.prog 5 #[U64 x, U64 y, v] W fun e w' => e = .returned (.bool true) ∧ Below W.heap.size W w' := by
  go_enter Try.func5, Try.ntmps5
  go_wp2_with fail
  refine (short_t v bs _ hr).mono ?_
  rintro e w' ⟨⟨v', rfl, hr'⟩, rfl⟩
  clear hr
  have hl := len300 bs
  generalize bs.take 300 = b3 at *
  have HR := hid hr'
  obtain ⟨a, c, rfl⟩ := hr'.shape
  clear hr'
  go_wp2_with fail
  refine (tag_t x y _ [b3] _ (rdS_one 22 HR.out) (by rw [flat1]; exact hl)).mono ?_
  rintro e w2 ⟨rfl, hbl⟩
  rw [flat1]
  have HB := hid (Below.trans ((Below.refl _ W).alloc (Nat.le_refl _) _) (hbl.mono (by simp)))
  clear hbl
  go_wp2_with fail
  refine (rtag_t x y _ b3 _ (HR.out.below HB.out) hl).mono ?_
  rintro e w3 ⟨rfl, hbl⟩
  rw [← tag_eq]
  generalize tagB x y b3 = t at *
  have HB1 := hid (HB.out.trans (hbl.mono HB.out.size))
  clear hbl
  go_wp2_with fail
  refine (awake_t _).mono ?_
  rintro e w3 ⟨rfl, hbl⟩
  have HB2 := hid (HB1.out.trans (hbl.mono HB1.out.size))
  clear hbl
  go_wp2
  go_ret
  exact ⟨rfl, HB2.out⟩
end Go.Proofs.Ytcnfmkhkibfpbaa
