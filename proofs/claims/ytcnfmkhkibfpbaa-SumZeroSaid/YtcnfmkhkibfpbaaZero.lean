/- The walk of SumZero. -/
import Derived.Test.YtcnfmkhkibfpbaaParts
namespace Go.Proofs.Ytcnfmkhkibfpbaa
open Go Go.RowKit

theorem rd_tail1 {w : World} {a : Option Addr} {n c : Nat} {bs : List UInt8} (h : Rd w (.slice a n c) bs) (hk : 1 ≤ n) :
    Rd w (.slice (if c = 1 then a else a.map (fun x => { block := x.block, off := x.off + 1 })) (n - 1) (c - 1)) (bs.drop 1) := rd_tail h hk
theorem rd_lit2 (w : World) (x y : UInt8) (e : TypeId) : Rd (w.alloc (.cells #[B x, B y] e)) (.slice (some ⟨w.heap.size, 0, none⟩) 2 2) [x, y] := rd_lit w [x, y] e (by simp)
theorem bytes_of (s : Int) (h0 : 0 ≤ s) (h1 : s ≤ 65535) : ∃ x y : UInt8, Value.int .u8 (s / 256) = B x ∧ Value.int .u8 (s % 256) = B y ∧ (x.toNat : Int) * 256 + (y.toNat : Int) = s := by
  have ex : ((UInt8.ofNat (s / 256).toNat).toNat : Int) = s / 256 := by
    rw [UInt8.toNat_ofNat_of_lt' (show (s / 256).toNat < 256 by omega)]; omega
  have ey : ((UInt8.ofNat (s % 256).toNat).toNat : Int) = s % 256 := by
    rw [UInt8.toNat_ofNat_of_lt' (show (s % 256).toNat < 256 by omega)]; omega
  exact ⟨_, _, vi ex.symm, vi ey.symm, by rw [ex, ey]; omega⟩

set_option maxHeartbeats 4000000 in
theorem sumZero_t (va vb : Value) (ba bb : List UInt8) (W : World) (ha : Rd W va ba) (hb : Rd W vb bb) :
    Calls Try.prog 8 #[va, vb] W fun e w' => e = .returned (.bool true) ∧ Below W.heap.size W w' := by
  go_enter Try.func8, Try.ntmps8
  go_wp2_with fail
  refine (short_t va ba _ ha).mono ?_
  rintro e w' ⟨⟨va', rfl, ha'⟩, rfl⟩
  go_wp2_with fail
  refine (short_t vb bb _ hb).mono ?_
  rintro e w' ⟨⟨vb', rfl, hb'⟩, rfl⟩
  clear ha hb
  have hla3 : (ba.take 300).length ≤ 300 := List.length_take_le _ _
  have hlb3 : (bb.take 300).length ≤ 300 := List.length_take_le _ _
  generalize ba.take 300 = a3 at *
  generalize bb.take 300 = b3 at *
  have HB := hid hb'
  obtain ⟨aa, ca, rfl⟩ := ha'.shape
  obtain ⟨ab, cb, rfl⟩ := hb'.shape
  have HA := hid ha'
  clear ha' hb'
  by_cases hp : a3.length % 2 = 1
  · have hpb : ((a3.length : Int) % 2 == 1) = true := by rw [beq_iff_eq]; omega
    have HA2 := hid (rd_tail1 HA.out (by omega))
    have hev := hid (show (a3.drop 1).length % 2 = 0 by rw [List.length_drop]; omega)
    have hle := hid (show (a3.drop 1).length ≤ 300 by rw [List.length_drop]; omega)
    have hpos : 1 ≤ a3.length := by omega
    clear hp
    by_cases hc1 : ca = 1
    · subst hc1
      rw [if_pos rfl, Nat.sub_self] at HA2
      go_wp2_with fail
      generalize aa = aq at *
      generalize a3.length - 1 = nq at *
      generalize a3.drop 1 = aL at *
      have hl1 := hid (show [aL, [0, 0], b3].flatten.length ≤ 1048576 by have := hle.out; simp; omega)
      have HS := hid (rdS_three 22 (HA2.out.alloc (.cells #[.int .u8 0, .int .u8 0] 5)) (rd_lit2 W 0 0 5) (HB.out.alloc (.cells #[.int .u8 0, .int .u8 0] 5)))
      rw [World.size_alloc] at HS
      refine (net_t _ [aL, [0, 0], b3] _ HS.out hl1.out).mono ?_
      rintro e w2 ⟨rfl, hbl⟩
      rw [show [aL, [0, 0], b3].flatten = aL ++ [0, 0] ++ b3 by simp]
      have HN := hid ((((Below.refl _ W).alloc (Nat.le_refl _) _).alloc (Nat.le_of_lt (by simp)) _).trans (hbl.mono (by simp; omega)))
      have hnr := net_range (aL ++ [0, 0] ++ b3) 0 0 (by decide) (by decide)
      have hs0 := xor16 _ hnr.1 hnr.2
      generalize hs : bits .xor .u16 65535 (netI 0 0 (aL ++ [0, 0] ++ b3)) = s at *
      have HSum := hid hs
      have h0 : 0 ≤ s := by omega
      have h1 : s ≤ 65535 := by omega
      obtain ⟨x, y, hx, hy, hxy⟩ := bytes_of s h0 h1
      have HX := hid hx
      have HY := hid hy
      have HXY := hid hxy
      have hsz := HN.out.size
      clear hbl hs hs0 hnr hx hy hxy HS hl1
      go_wp2_with fail
      rw [HX.out, HY.out]
      have HS2 := hid (rdS_three 22 ((HA2.out.below HN.out).alloc (.cells #[B x, B y] 5)) (rd_lit2 w2 x y 5) ((HB.out.below HN.out).alloc (.cells #[B x, B y] 5)))
      rw [World.size_alloc] at HS2
      refine (net_t _ [aL, [x, y], b3] _ HS2.out (by have := hle.out; simp; omega)).mono ?_
      rintro e w3 ⟨rfl, hbl⟩
      rw [show [aL, [x, y], b3].flatten = aL ++ [x, y] ++ b3 by simp, net_zero aL b3 hev.out x y s HSum.out.symm HXY.out]
      have HN3 := hid (HN.out.trans (((((Below.refl _ w2).alloc (Nat.le_refl _) _).alloc (Nat.le_of_lt (by simp)) _).trans (hbl.mono (by simp; omega))).mono hsz))
      clear hbl HS2
      go_wp2_with fail
      refine (awake_t _).mono ?_
      rintro e w4 ⟨rfl, hbl⟩
      have HN4 := hid (HN3.out.trans (hbl.mono HN3.out.size))
      clear hbl
      go_wp2
      go_ret
      exact ⟨rfl, HN4.out⟩
    · rw [if_neg hc1] at HA2
      go_wp2_with fail
      generalize aa.map (fun x => ({ block := x.block, off := x.off + 1 } : Addr)) = aq at *
      generalize a3.length - 1 = nq at *
      generalize ca - 1 = cq at *
      generalize a3.drop 1 = aL at *
      have hl1 := hid (show [aL, [0, 0], b3].flatten.length ≤ 1048576 by have := hle.out; simp; omega)
      have HS := hid (rdS_three 22 (HA2.out.alloc (.cells #[.int .u8 0, .int .u8 0] 5)) (rd_lit2 W 0 0 5) (HB.out.alloc (.cells #[.int .u8 0, .int .u8 0] 5)))
      rw [World.size_alloc] at HS
      refine (net_t _ [aL, [0, 0], b3] _ HS.out hl1.out).mono ?_
      rintro e w2 ⟨rfl, hbl⟩
      rw [show [aL, [0, 0], b3].flatten = aL ++ [0, 0] ++ b3 by simp]
      have HN := hid ((((Below.refl _ W).alloc (Nat.le_refl _) _).alloc (Nat.le_of_lt (by simp)) _).trans (hbl.mono (by simp; omega)))
      have hnr := net_range (aL ++ [0, 0] ++ b3) 0 0 (by decide) (by decide)
      have hs0 := xor16 _ hnr.1 hnr.2
      generalize hs : bits .xor .u16 65535 (netI 0 0 (aL ++ [0, 0] ++ b3)) = s at *
      have HSum := hid hs
      have h0 : 0 ≤ s := by omega
      have h1 : s ≤ 65535 := by omega
      obtain ⟨x, y, hx, hy, hxy⟩ := bytes_of s h0 h1
      have HX := hid hx
      have HY := hid hy
      have HXY := hid hxy
      have hsz := HN.out.size
      clear hbl hs hs0 hnr hx hy hxy HS hl1
      go_wp2_with fail
      rw [HX.out, HY.out]
      have HS2 := hid (rdS_three 22 ((HA2.out.below HN.out).alloc (.cells #[B x, B y] 5)) (rd_lit2 w2 x y 5) ((HB.out.below HN.out).alloc (.cells #[B x, B y] 5)))
      rw [World.size_alloc] at HS2
      refine (net_t _ [aL, [x, y], b3] _ HS2.out (by have := hle.out; simp; omega)).mono ?_
      rintro e w3 ⟨rfl, hbl⟩
      rw [show [aL, [x, y], b3].flatten = aL ++ [x, y] ++ b3 by simp, net_zero aL b3 hev.out x y s HSum.out.symm HXY.out]
      have HN3 := hid (HN.out.trans (((((Below.refl _ w2).alloc (Nat.le_refl _) _).alloc (Nat.le_of_lt (by simp)) _).trans (hbl.mono (by simp; omega))).mono hsz))
      clear hbl HS2
      go_wp2_with fail
      refine (awake_t _).mono ?_
      rintro e w4 ⟨rfl, hbl⟩
      have HN4 := hid (HN3.out.trans (hbl.mono HN3.out.size))
      clear hbl
      go_wp2
      go_ret
      exact ⟨rfl, HN4.out⟩
  · have hpb : ((a3.length : Int) % 2 == 1) = false := by rw [beq_eq_false_iff_ne]; omega
    have HA2 := hid HA.out
    have hev := hid (show a3.length % 2 = 0 by omega)
    have hle := hid hla3
    clear hp
    go_wp2_with fail
    generalize aa = aq at *
    generalize ca = cq at *
    generalize a3 = aL at *
    have hl1 := hid (show [aL, [0, 0], b3].flatten.length ≤ 1048576 by have := hle.out; simp; omega)
    have HS := hid (rdS_three 22 (HA2.out.alloc (.cells #[.int .u8 0, .int .u8 0] 5)) (rd_lit2 W 0 0 5) (HB.out.alloc (.cells #[.int .u8 0, .int .u8 0] 5)))
    rw [World.size_alloc] at HS
    refine (net_t _ [aL, [0, 0], b3] _ HS.out hl1.out).mono ?_
    rintro e w2 ⟨rfl, hbl⟩
    rw [show [aL, [0, 0], b3].flatten = aL ++ [0, 0] ++ b3 by simp]
    have HN := hid ((((Below.refl _ W).alloc (Nat.le_refl _) _).alloc (Nat.le_of_lt (by simp)) _).trans (hbl.mono (by simp; omega)))
    have hnr := net_range (aL ++ [0, 0] ++ b3) 0 0 (by decide) (by decide)
    have hs0 := xor16 _ hnr.1 hnr.2
    generalize hs : bits .xor .u16 65535 (netI 0 0 (aL ++ [0, 0] ++ b3)) = s at *
    have HSum := hid hs
    have h0 : 0 ≤ s := by omega
    have h1 : s ≤ 65535 := by omega
    obtain ⟨x, y, hx, hy, hxy⟩ := bytes_of s h0 h1
    have HX := hid hx
    have HY := hid hy
    have HXY := hid hxy
    have hsz := HN.out.size
    clear hbl hs hs0 hnr hx hy hxy HS hl1
    go_wp2_with fail
    rw [HX.out, HY.out]
    have HS2 := hid (rdS_three 22 ((HA2.out.below HN.out).alloc (.cells #[B x, B y] 5)) (rd_lit2 w2 x y 5) ((HB.out.below HN.out).alloc (.cells #[B x, B y] 5)))
    rw [World.size_alloc] at HS2
    refine (net_t _ [aL, [x, y], b3] _ HS2.out (by have := hle.out; simp; omega)).mono ?_
    rintro e w3 ⟨rfl, hbl⟩
    rw [show [aL, [x, y], b3].flatten = aL ++ [x, y] ++ b3 by simp, net_zero aL b3 hev.out x y s HSum.out.symm HXY.out]
    have HN3 := hid (HN.out.trans (((((Below.refl _ w2).alloc (Nat.le_refl _) _).alloc (Nat.le_of_lt (by simp)) _).trans (hbl.mono (by simp; omega))).mono hsz))
    clear hbl HS2
    go_wp2_with fail
    refine (awake_t _).mono ?_
    rintro e w4 ⟨rfl, hbl⟩
    have HN4 := hid (HN3.out.trans (hbl.mono HN3.out.size))
    clear hbl
    go_wp2
    go_ret
    exact ⟨rfl, HN4.out⟩
end Go.Proofs.Ytcnfmkhkibfpbaa
