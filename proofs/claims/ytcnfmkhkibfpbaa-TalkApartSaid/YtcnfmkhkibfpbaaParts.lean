/- The walks of SumParts, SumBit and SumZero. -/
import Derived.Test.YtcnfmkhkibfpbaaLaws
namespace Go.Proofs.Ytcnfmkhkibfpbaa
open Go Go.RowKit

theorem rdS_three {w : World} {v1 v2 v3 : Value} {b1 b2 b3 : List UInt8} (e : TypeId) (h1 : Rd w v1 b1) (h2 : Rd w v2 b2) (h3 : Rd w v3 b3) :
    RdS (w.alloc (.cells #[v1, v2, v3] e)) (.slice (some ⟨w.heap.size, 0, none⟩) 3 3) [b1, b2, b3] :=
  ⟨_, _, rfl, Nat.le_refl _, by unfold maxLen; simp, fun j b hb => by
    have hc : ∀ i, (w.alloc (.cells #[v1, v2, v3] e)).cell? ⟨w.heap.size, 0 + i, none⟩ = #[v1, v2, v3][i]? := fun i => by rw [cell_of_row _ _ _ _ _ _ (heap_alloc_new w _), Nat.zero_add]
    match j, hb with
    | 0, hb => simp at hb; subst hb; exact ⟨_, _, v1, rfl, hc 0, h1.alloc _⟩
    | 1, hb => simp at hb; subst hb; exact ⟨_, _, v2, rfl, hc 1, h2.alloc _⟩
    | 2, hb => simp at hb; subst hb; exact ⟨_, _, v3, rfl, hc 2, h3.alloc _⟩
    | j + 3, hb => simp at hb⟩
theorem own_empty (w : World) (base : Nat) (e : TypeId) (h : base ≤ w.heap.size) : (w.alloc (.cells #[] e)).ownsRow base e 1 (.slice (some ⟨w.heap.size, 0, none⟩) 0 0) ([] : List UInt8).length (([] : List UInt8).map B) :=
  World.ownsRow_made w #[] 0 h (by unfold maxLen; omega) rfl

theorem near {w w' : World} {o : Obj} (h : Below (w.alloc o).heap.size (w.alloc o) w') : Below w.heap.size w w' := ((Below.refl _ w).alloc (Nat.le_refl _) _).trans (h.mono (Nat.le_of_lt (by simp)))

set_option maxHeartbeats 4000000 in
theorem sumParts_t (x y : BitVec 64) (va vb vc : Value) (ba bb bc : List UInt8) (W : World) (ha : Rd W va ba) (hb : Rd W vb bb) (hc : Rd W vc bc) :
    Calls Try.prog 6 #[U64 x, U64 y, va, vb, vc] W fun e w' => e = .returned (.bool true) ∧ Below W.heap.size W w' := by
  go_enter Try.func6, Try.ntmps6
  go_wp2_with fail
  refine (short_t va ba _ ha).mono ?_
  rintro e w' ⟨⟨va', rfl, ha'⟩, rfl⟩
  go_wp2_with fail
  refine (short_t vb bb _ hb).mono ?_
  rintro e w' ⟨⟨vb', rfl, hb'⟩, rfl⟩
  go_wp2_with fail
  refine (short_t vc bc _ hc).mono ?_
  rintro e w' ⟨⟨vc', rfl, hc'⟩, rfl⟩
  clear ha hb hc
  have hla := len300 ba
  have hlb := len300 bb
  have hlc := len300 bc
  have hla3 : (ba.take 300).length ≤ 300 := List.length_take_le _ _
  have hlb3 : (bb.take 300).length ≤ 300 := List.length_take_le _ _
  have hlc3 : (bc.take 300).length ≤ 300 := List.length_take_le _ _
  generalize ba.take 300 = a3 at *
  generalize bb.take 300 = b3 at *
  generalize bc.take 300 = c3 at *
  have HA := hid ha'
  have HB := hid hb'
  have HC := hid hc'
  obtain ⟨aa, ca, rfl⟩ := ha'.shape
  obtain ⟨ab, cb, rfl⟩ := hb'.shape
  obtain ⟨ac, cc, rfl⟩ := hc'.shape
  clear ha' hb' hc'
  go_wp2_with (at_builtin; refine wpl_append_bytes rfl _ _ 22 rfl T22 W.heap.size _ [] rfl (own_empty W _ 5 (Nat.le_refl _)) _ rfl a3 (HA.out.alloc _) ?c1 ?c2 ?c3)
  case c1 => simp; omega
  case c2 => exact Nat.le_of_lt (by simp)
  case c3 =>
    intro v1 w1 hown hg
    have HO : Hid (w1.ownsRow W.heap.size 5 1 v1 a3.length (a3.map B)) := hid (by simpa using hown)
    have hb1 := below_grown ((Below.refl W.heap.size W).alloc (Nat.le_refl _) _) (own_empty W _ 5 (Nat.le_refl _)) hg (by simp)
    have HBL := hid hb1
    clear hown hg hb1
    go_wp2_with (at_builtin; refine wpl_append_bytes rfl _ _ 22 rfl T22 W.heap.size _ a3 rfl HO.out _ rfl b3 (HB.out.below HBL.out) ?d1 ?d2 ?d3)
    case d1 => omega
    case d2 => exact HBL.out.size
    case d3 =>
      intro v2 w2 hown hg
      have HO2 : Hid (w2.ownsRow W.heap.size 5 1 v2 (a3 ++ b3).length ((a3 ++ b3).map B)) := hid (by rw [List.length_append, List.map_append]; exact hown)
      have HBL2 := hid (below_grown HBL.out HO.out hg HBL.out.size)
      clear hown hg
      go_wp2_with (at_builtin; refine wpl_append_bytes rfl _ _ 22 rfl T22 W.heap.size _ (a3 ++ b3) rfl HO2.out _ rfl c3 (HC.out.below HBL2.out) ?e1 ?e2 ?e3)
      case e1 => simp; omega
      case e2 => exact HBL2.out.size
      case e3 =>
        intro v3 w3 hown hg
        have HBL3 := hid (below_grown HBL2.out HO2.out hg HBL2.out.size)
        have HR : Hid (Rd w3 v3 (a3 ++ b3 ++ c3)) := hid (Rd.of_owns (by simpa [Nat.add_assoc] using hown))
        have HA3 := hid (HA.out.below HBL3.out)
        have HB3 := hid (HB.out.below HBL3.out)
        have HC3 := hid (HC.out.below HBL3.out)
        have hsz := HBL3.out.size
        clear hown hg
        have HF := hid (show [a3, b3, c3].flatten = a3 ++ b3 ++ c3 by simp)
        have HL := hid (show (a3 ++ b3 ++ c3).length ≤ 1048576 by simp; omega)
        generalize a3 ++ b3 ++ c3 = all at *
        obtain ⟨aq, cq, rfl⟩ := HR.out.shape
        clear HA HB HC HO HBL HO2 HBL2
        go_wp2_with fail
        refine (net_t _ [a3, b3, c3] _ (rdS_three 22 HA3.out HB3.out HC3.out) (by rw [HF.out]; exact HL.out)).mono ?_
        rintro e w4 ⟨rfl, hbl⟩
        rw [HF.out]
        have HN4 := hid (near hbl)
        have HBL4 := hid (HBL3.out.trans (HN4.out.mono hsz))
        have HA4 := hid (HA3.out.below HN4.out)
        have HB4 := hid (HB3.out.below HN4.out)
        have HC4 := hid (HC3.out.below HN4.out)
        have HR4 := hid (HR.out.below HN4.out)
        have hsz4 := HBL4.out.size
        clear hbl HN4 HA3 HB3 HC3 HR HBL3 hsz
        go_wp2_with fail
        refine (net_t _ [all] _ (rdS_one 22 HR4.out) (by rw [flat1]; exact HL.out)).mono ?_
        rintro e w5 ⟨rfl, hbl⟩
        have HN5 := hid (near hbl)
        have HBL5 := hid (HBL4.out.trans (HN5.out.mono hsz4))
        have HA5 := hid (HA4.out.below HN5.out)
        have HB5 := hid (HB4.out.below HN5.out)
        have HC5 := hid (HC4.out.below HN5.out)
        have HR5 := hid (HR4.out.below HN5.out)
        have hsz5 := HBL5.out.size
        clear hbl HN5 HA4 HB4 HC4 HR4 HBL4 hsz4
        rw [flat1]
        generalize bits .xor .u16 65535 (netI 0 0 all) = r1 at *
        go_wp2_with fail
        refine (crc_t _ _ [a3, b3, c3] (rdS_three 22 HA5.out HB5.out HC5.out)).mono ?_
        rintro e w' ⟨rfl, rfl⟩
        rw [HF.out]
        have HN6 := hid (((Below.refl _ w5).alloc (Nat.le_refl _) (.cells #[.slice aa a3.length ca, .slice ab b3.length cb, .slice ac c3.length cc] 22)))
        generalize (w5.alloc (.cells #[.slice aa a3.length ca, .slice ab b3.length cb, .slice ac c3.length cc] 22)) = w6 at *
        have HBL6 := hid (HBL5.out.trans (HN6.out.mono hsz5))
        have HA6 := hid (HA5.out.below HN6.out)
        have HB6 := hid (HB5.out.below HN6.out)
        have HC6 := hid (HC5.out.below HN6.out)
        have HR6 := hid (HR5.out.below HN6.out)
        have hsz6 := HBL6.out.size
        clear HN6 HA5 HB5 HC5 HR5 HBL5 hsz5
        go_wp2_with fail
        refine (crc_t _ _ [all] (rdS_one 22 HR6.out)).mono ?_
        rintro e w' ⟨rfl, rfl⟩
        have HN7 := hid (((Below.refl _ w6).alloc (Nat.le_refl _) (.cells #[.slice aq all.length cq] 22)))
        generalize (w6.alloc (.cells #[.slice aq all.length cq] 22)) = w7 at *
        have HBL7 := hid (HBL6.out.trans (HN7.out.mono hsz6))
        have HA7 := hid (HA6.out.below HN7.out)
        have HB7 := hid (HB6.out.below HN7.out)
        have HC7 := hid (HC6.out.below HN7.out)
        have HR7 := hid (HR6.out.below HN7.out)
        have hsz7 := HBL7.out.size
        clear HN7 HA6 HB6 HC6 HR6 HBL6 hsz6
        rw [flat1]
        generalize bits .xor .u32 4294967295 (crcI 4294967295 all) = r2 at *
        go_wp2_with fail
        refine (tag_t x y _ [a3, b3, c3] _ (rdS_three 22 HA7.out HB7.out HC7.out) (by rw [HF.out]; exact HL.out)).mono ?_
        rintro e w8 ⟨rfl, hbl⟩
        rw [HF.out]
        have HN8 := hid (near hbl)
        have HBL8 := hid (HBL7.out.trans (HN8.out.mono hsz7))
        have HR8 := hid (HR7.out.below HN8.out)
        have hsz8 := HBL8.out.size
        clear hbl HN8 HA7 HB7 HC7 HR7 HBL7 hsz7
        go_wp2_with fail
        refine (tag_t x y _ [all] _ (rdS_one 22 HR8.out) (by rw [flat1]; exact HL.out)).mono ?_
        rintro e w9 ⟨rfl, hbl⟩
        have HN9 := hid (near hbl)
        have HBL9 := hid (HBL8.out.trans (HN9.out.mono hsz8))
        clear hbl HN9 HR8 HBL8 hsz8
        rw [flat1]
        generalize tagB x y all = r3 at *
        go_wp2_with fail
        refine (awake_t _).mono ?_
        rintro e w10 ⟨rfl, hbl⟩
        have HBL10 := hid (HBL9.out.trans (hbl.mono HBL9.out.size))
        clear hbl
        go_wp2
        go_ret
        exact ⟨rfl, HBL10.out⟩
end Go.Proofs.Ytcnfmkhkibfpbaa
