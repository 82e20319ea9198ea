/- The walk of SumBit. -/
import Derived.Test.YtcnfmkhkibfpbaaParts
namespace Go.Proofs.Ytcnfmkhkibfpbaa
open Go Go.RowKit

theorem flip_byte (u : UInt8) (q : Nat) : ∃ u' : UInt8, Value.int .u8 (bits .xor .u8 (u.toNat : Int) (2 ^ (q % 8) % 256)) = B u' ∧ u' ≠ u := by
  have hu := u.toNat_lt
  have hk : q % 8 < 8 := Nat.mod_lt _ (by decide)
  generalize q % 8 = k at *
  have hp : 2 ^ k < 256 := Nat.pow_lt_pow_right (by decide) hk
  have hp0 : 0 < 2 ^ k := Nat.pow_pos (by decide)
  have e1 : ((2 : Int) ^ k % 256) = ((2 ^ k : Nat) : Int) := by
    rw [show ((2 ^ k : Nat) : Int) = (2 : Int) ^ k by simp]
    have : (2 : Int) ^ k = ((2 ^ k : Nat) : Int) := by simp
    omega
  have hx : u.toNat ^^^ 2 ^ k < 2 ^ 8 := Nat.xor_lt_two_pow (by omega) (by omega)
  refine ⟨UInt8.ofNat (u.toNat ^^^ 2 ^ k), vi ?_, fun e => ?_⟩
  · rw [e1, u8_xor_nat _ _ (by omega) (by omega), UInt8.toNat_ofNat_of_lt' hx]
  · have h2 := congrArg UInt8.toNat e
    rw [UInt8.toNat_ofNat_of_lt' hx] at h2
    have h3 := congrArg (u.toNat ^^^ ·) h2
    simp only [← Nat.xor_assoc, Nat.xor_self, Nat.zero_xor] at h3
    omega
theorem split_at (l : List UInt8) (i : Nat) (h : i < l.length) : ∀ u' : UInt8, l.set i u' = l.take i ++ [u'] ++ l.drop (i + 1) ∧ l = l.take i ++ [l[i]] ++ l.drop (i + 1) := by
  intro u'
  constructor
  · rw [List.set_eq_take_append_cons_drop, if_pos h]; simp
  · rw [← take_snoc h, List.take_append_drop]
theorem rd_cells {w : World} {g cap : Nat} {cur : Array Value} {e : TypeId} {bs : List UInt8} (hg : w.heap[g]? = some (.cells cur e (0, 0))) (hl : bs.length ≤ cap) (hm : cap ≤ maxLen) (ht : cur.toList.take bs.length = bs.map B) :
    Rd w (.slice (some ⟨g, 0, none⟩) bs.length cap) bs :=
  ⟨_, _, rfl, hl, hm, fun j u hu => ⟨g, 0, rfl, by
    have hj := (List.getElem?_eq_some_iff.1 hu).1
    rw [cell_of_row w g _ cur e (0, 0) hg, Nat.zero_add]
    have h1 : (cur.toList.take bs.length)[j]? = some (B u) := by rw [ht]; simp [hu]
    rw [List.getElem?_take_of_lt hj] at h1
    simpa using h1⟩⟩

set_option maxHeartbeats 4000000 in
theorem sumBit_t (va : Value) (bit : Int) (ba : List UInt8) (W : World) (ha : Rd W va ba) :
    Calls Try.prog 7 #[va, .int .i64 bit] W fun e w' => e = .returned (.bool true) ∧ Below W.heap.size W w' := by
  go_enter Try.func7, Try.ntmps7
  go_wp2_with fail
  refine (short_t va ba _ ha).mono ?_
  rintro e w' ⟨⟨va', rfl, ha'⟩, rfl⟩
  clear ha
  have hla3 : (ba.take 300).length ≤ 300 := List.length_take_le _ _
  generalize ba.take 300 = a3 at *
  obtain ⟨aa, ca, rfl⟩ := ha'.shape
  have HA := hid ha'
  clear ha'
  by_cases h0 : a3.length = 0
  · have hz : ((a3.length : Int) == 0) = true := by rw [beq_iff_eq]; omega
    clear h0
    go_wp2_with fail
    refine (awake_t _).mono ?_
    rintro e w4 ⟨rfl, hbl⟩
    have HN4 := hid hbl
    clear hbl
    go_wp2
    go_ret
    exact ⟨rfl, HN4.out⟩
  · have hz : ((a3.length : Int) == 0) = false := by rw [beq_eq_false_iff_ne]; omega
    have hpos : 1 ≤ a3.length := by omega
    clear h0
    have hq1 := Int.tmod_lt_of_pos bit (b := 8 * (a3.length : Int)) (by omega)
    have hq2 : -(8 * (a3.length : Int)) < bit.tmod (8 * (a3.length : Int)) := by
      have := Int.tmod_lt_of_pos (-bit) (b := 8 * (a3.length : Int)) (by omega)
      rw [Int.neg_tmod] at this
      omega
    by_cases hs : bit.tmod (8 * (a3.length : Int)) < 0
    · have hq3 : 0 ≤ -(bit.tmod (8 * (a3.length : Int))) := by omega
      have hq4 : -(bit.tmod (8 * (a3.length : Int))) < 8 * (a3.length : Int) := by omega
      go_wp2_with (at_builtin; refine wpl_append_bytes rfl _ _ 22 rfl T22 W.heap.size _ [] rfl (own_empty W _ 5 (Nat.le_refl _)) _ rfl a3 (HA.out.alloc _) ?c1 ?c2 ?c3)
      case c1 => simp; omega
      case c2 => exact Nat.le_of_lt (by simp)
      case c3 =>
        intro v1 w1 hown hgr
        have hb1 := below_grown ((Below.refl W.heap.size W).alloc (Nat.le_refl _) _) (own_empty W _ 5 (Nat.le_refl _)) hgr (by simp)
        have HBL := hid hb1
        clear hgr hb1
        generalize -(bit.tmod (8 * (a3.length : Int))) = q at *
        obtain ⟨qn, rfl⟩ : ∃ n : Nat, q = n := ⟨q.toNat, by omega⟩
        rcases hown.2 with ⟨_, hn⟩ | ⟨g, cap, cur, rfl, hbg, hg, hnc, hcm, hcs, htake⟩
        · exact absurd hn (by omega)
        have hlt : qn / 8 < a3.length := by omega
        have hcur : cur[qn / 8]? = some (B a3[qn / 8]) := by
          have h1 : (cur.toList.take (a3.length * 1))[qn / 8]? = some (B a3[qn / 8]) := by rw [htake]; simp [hlt]
          rw [List.getElem?_take] at h1
          split at h1
          · simpa using h1
          · cases h1
        have hcell : w1.cell? ⟨g, qn / 8, none⟩ = some (B a3[qn / 8]) := by rw [cell_of_row w1 g _ cur 5 (0, 0) hg]; exact hcur
        have hfz : w1.frozen? ⟨g, qn / 8, none⟩ = false := frozen_of_row w1 g _ cur 5 hg
        have HG := hid hg
        have HT := hid htake
        have HC := hid hcs
        have HM := hid hcm
        clear hown hg htake hcs hcur hcm
        have hu := a3[qn / 8].toNat_lt
        have hspl := split_at a3 (qn / 8) hlt
        generalize a3[qn / 8] = u at *
        obtain ⟨u', hu', hne⟩ := flip_byte u qn
        have HU := hid hu'
        have HS := hid hspl
        clear hu' hspl
        go_wp2_with fail
        rw [HU.out]
        have hg2 := heap_setCell_same w1 g (qn / 8) cur 5 (B u') HG.out
        have hset : (a3.set (qn / 8) u').length = a3.length := List.length_set
        have hrc : Rd (w1.setCell ⟨g, qn / 8, none⟩ (B u')) (.slice (some ⟨g, 0, none⟩) a3.length cap) (a3.set (qn / 8) u') := by
          have := rd_cells (bs := a3.set (qn / 8) u') hg2 (by rw [hset]; exact hnc) HM.out (by
            rw [hset, Array.toList_setIfInBounds, List.take_set, show a3.length = a3.length * 1 by omega, HT.out, List.map_set])
          rwa [hset] at this
        have hbl2 : Below W.heap.size W (w1.setCell ⟨g, qn / 8, none⟩ (B u')) := HBL.out.setCell hbg _
        have HR := hid hrc
        have HB2 := hid hbl2
        have HZ := hid (show (w1.setCell ⟨g, qn / 8, none⟩ (B u')).heap.size = w1.heap.size by simp [World.setCell])
        clear hcell hfz hg2 hset hrc hbl2 HG
        generalize w1.setCell ⟨g, qn / 8, none⟩ (B u') = w2 at *
        have HA2 := hid (HA.out.below HB2.out)
        have HRS := hid (rdS_one 22 HR.out)
        rw [HZ.out] at HRS
        refine (crc_t _ _ [a3.set (qn / 8) u'] HRS.out).mono ?_
        rintro e w' ⟨rfl, rfl⟩
        rw [flat1]
        have HB3 := hid (HB2.out.alloc HB2.out.size (.cells #[.slice (some ⟨g, 0, none⟩) a3.length cap] 22))
        have HA3 := hid (HA2.out.alloc (.cells #[.slice (some ⟨g, 0, none⟩) a3.length cap] 22))
        generalize w2.alloc (.cells #[.slice (some ⟨g, 0, none⟩) a3.length cap] 22) = w3 at *
        go_wp2_with fail
        refine (crc_t _ _ [a3] (rdS_one 22 HA3.out)).mono ?_
        rintro e w' ⟨rfl, rfl⟩
        rw [flat1]
        have hap : (bits .xor .u32 4294967295 (crcI 4294967295 (a3.set (qn / 8) u')) != bits .xor .u32 4294967295 (crcI 4294967295 a3)) = true := by
          rw [bne_iff_ne]
          exact crc_not_apart _ _ (fun e => crc_apart (a3.take (qn / 8)) (a3.drop (qn / 8 + 1)) u' u hne (by rw [← (HS.out u').1, ← (HS.out u').2]; exact e))
        generalize bits .xor .u32 4294967295 (crcI 4294967295 (a3.set (qn / 8) u')) = r1 at *
        generalize bits .xor .u32 4294967295 (crcI 4294967295 a3) = r2 at *
        have HB4 := hid (HB3.out.alloc HB3.out.size (.cells #[.slice aa a3.length ca] 22))
        go_wp2_with fail
        refine (awake_t _).mono ?_
        rintro e w4 ⟨rfl, hbl⟩
        have HN4 := hid (HB4.out.trans (hbl.mono HB4.out.size))
        clear hbl
        go_wp2
        go_ret
        exact ⟨rfl, HN4.out⟩
    · have hq3 : 0 ≤ bit.tmod (8 * (a3.length : Int)) := by omega
      go_wp2_with (at_builtin; refine wpl_append_bytes rfl _ _ 22 rfl T22 W.heap.size _ [] rfl (own_empty W _ 5 (Nat.le_refl _)) _ rfl a3 (HA.out.alloc _) ?d1 ?d2 ?d3)
      case d1 => simp; omega
      case d2 => exact Nat.le_of_lt (by simp)
      case d3 =>
        intro v1 w1 hown hgr
        have hb1 := below_grown ((Below.refl W.heap.size W).alloc (Nat.le_refl _) _) (own_empty W _ 5 (Nat.le_refl _)) hgr (by simp)
        have HBL := hid hb1
        clear hgr hb1
        generalize bit.tmod (8 * (a3.length : Int)) = q at *
        obtain ⟨qn, rfl⟩ : ∃ n : Nat, q = n := ⟨q.toNat, by omega⟩
        rcases hown.2 with ⟨_, hn⟩ | ⟨g, cap, cur, rfl, hbg, hg, hnc, hcm, hcs, htake⟩
        · exact absurd hn (by omega)
        have hlt : qn / 8 < a3.length := by omega
        have hcur : cur[qn / 8]? = some (B a3[qn / 8]) := by
          have h1 : (cur.toList.take (a3.length * 1))[qn / 8]? = some (B a3[qn / 8]) := by rw [htake]; simp [hlt]
          rw [List.getElem?_take] at h1
          split at h1
          · simpa using h1
          · cases h1
        have hcell : w1.cell? ⟨g, qn / 8, none⟩ = some (B a3[qn / 8]) := by rw [cell_of_row w1 g _ cur 5 (0, 0) hg]; exact hcur
        have hfz : w1.frozen? ⟨g, qn / 8, none⟩ = false := frozen_of_row w1 g _ cur 5 hg
        have HG := hid hg
        have HT := hid htake
        have HC := hid hcs
        have HM := hid hcm
        clear hown hg htake hcs hcur hcm
        have hu := a3[qn / 8].toNat_lt
        have hspl := split_at a3 (qn / 8) hlt
        generalize a3[qn / 8] = u at *
        obtain ⟨u', hu', hne⟩ := flip_byte u qn
        have HU := hid hu'
        have HS := hid hspl
        clear hu' hspl
        go_wp2_with fail
        rw [HU.out]
        have hg2 := heap_setCell_same w1 g (qn / 8) cur 5 (B u') HG.out
        have hset : (a3.set (qn / 8) u').length = a3.length := List.length_set
        have hrc : Rd (w1.setCell ⟨g, qn / 8, none⟩ (B u')) (.slice (some ⟨g, 0, none⟩) a3.length cap) (a3.set (qn / 8) u') := by
          have := rd_cells (bs := a3.set (qn / 8) u') hg2 (by rw [hset]; exact hnc) HM.out (by
            rw [hset, Array.toList_setIfInBounds, List.take_set, show a3.length = a3.length * 1 by omega, HT.out, List.map_set])
          rwa [hset] at this
        have hbl2 : Below W.heap.size W (w1.setCell ⟨g, qn / 8, none⟩ (B u')) := HBL.out.setCell hbg _
        have HR := hid hrc
        have HB2 := hid hbl2
        have HZ := hid (show (w1.setCell ⟨g, qn / 8, none⟩ (B u')).heap.size = w1.heap.size by simp [World.setCell])
        clear hcell hfz hg2 hset hrc hbl2 HG
        generalize w1.setCell ⟨g, qn / 8, none⟩ (B u') = w2 at *
        have HA2 := hid (HA.out.below HB2.out)
        have HRS := hid (rdS_one 22 HR.out)
        rw [HZ.out] at HRS
        refine (crc_t _ _ [a3.set (qn / 8) u'] HRS.out).mono ?_
        rintro e w' ⟨rfl, rfl⟩
        rw [flat1]
        have HB3 := hid (HB2.out.alloc HB2.out.size (.cells #[.slice (some ⟨g, 0, none⟩) a3.length cap] 22))
        have HA3 := hid (HA2.out.alloc (.cells #[.slice (some ⟨g, 0, none⟩) a3.length cap] 22))
        generalize w2.alloc (.cells #[.slice (some ⟨g, 0, none⟩) a3.length cap] 22) = w3 at *
        go_wp2_with fail
        refine (crc_t _ _ [a3] (rdS_one 22 HA3.out)).mono ?_
        rintro e w' ⟨rfl, rfl⟩
        rw [flat1]
        have hap : (bits .xor .u32 4294967295 (crcI 4294967295 (a3.set (qn / 8) u')) != bits .xor .u32 4294967295 (crcI 4294967295 a3)) = true := by
          rw [bne_iff_ne]
          exact crc_not_apart _ _ (fun e => crc_apart (a3.take (qn / 8)) (a3.drop (qn / 8 + 1)) u' u hne (by rw [← (HS.out u').1, ← (HS.out u').2]; exact e))
        generalize bits .xor .u32 4294967295 (crcI 4294967295 (a3.set (qn / 8) u')) = r1 at *
        generalize bits .xor .u32 4294967295 (crcI 4294967295 a3) = r2 at *
        have HB4 := hid (HB3.out.alloc HB3.out.size (.cells #[.slice aa a3.length ca] 22))
        go_wp2_with fail
        refine (awake_t _).mono ?_
        rintro e w4 ⟨rfl, hbl⟩
        have HN4 := hid (HB4.out.trans (hbl.mono HB4.out.size))
        clear hbl
        go_wp2
        go_ret
        exact ⟨rfl, HN4.out⟩
end Go.Proofs.Ytcnfmkhkibfpbaa
