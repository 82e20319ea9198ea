/- The walk of the reference's Tag. -/
import Derived.Test.YtcnfmkhkibfpbaaTurn
import Derived.Test.YtcnfmkhkibfpbaaTag
import Derived.Test.YtcnfmkhkibfpbaaNet
namespace Go.Proofs.Ytcnfmkhkibfpbaa
open Go Go.RowKit
attribute [local go_sem] u64_xor_bv u64_add_bv u64_add_bv' u64_or_bv u64_xor_lit1 u64_xor_lit2 u64_xor_lit3 u64_xor_lit4 u64_xor_lit5

def bB (bs : List UInt8) (i : Nat) : BitVec 64 := BitVec.ofNat 64 (bat bs i).toNat
def rAux (bs : List UInt8) (i : Nat) : Nat → BitVec 64
  | 0 => 0
  | j + 1 => (rAux bs i j) <<< 8 + bB bs (8 * i + (7 - j))
def rWord (bs : List UInt8) (i : Nat) : BitVec 64 :=
  if i = bs.length / 8 then rAux bs i 8 + BitVec.ofNat 64 (bs.length % 256) <<< 56 else rAux bs i 8
def Sip.rword (v : Sip) (m : BitVec 64) : Sip :=
  let u := Sip.rrounds 2 ⟨v.a, v.b, v.c, v.d ^^^ m⟩
  ⟨u.a ^^^ m, u.b, u.c, u.d⟩
def Sip.rwords (v : Sip) (bs : List UInt8) : Nat → Sip
  | 0 => v
  | m + 1 => (Sip.rwords v bs m).rword (rWord bs m)
def Sip.rtail (v : Sip) : BitVec 64 := (Sip.rrounds 4 ⟨v.a, v.b, v.c ^^^ 255#64, v.d⟩).out
def rtagB (a b : BitVec 64) (bs : List UInt8) : BitVec 64 := (Sip.rwords (Sip.init a b) bs (bs.length / 8 + 1)).rtail

theorem n64_256 (x : BitVec 64) : IntKind.u64.wrap (n64 x * 256) = n64 (x <<< 8) := u64_shl_bv x 8
theorem n64_ofNat (n : Nat) (h : n ≤ 18446744073709551615) : n64 (BitVec.ofNat 64 n) = (n : Int) := by
  unfold n64; simp only [BitVec.toNat_ofNat]; omega
theorem bB_lt {bs : List UInt8} {i : Nat} (h : i < bs.length) : n64 (bB bs i) = (bs[i].toNat : Int) := by
  have := bs[i].toNat_lt
  unfold bB; rw [bat_lt h, Int.toNat_natCast, n64_ofNat _ (by omega)]
theorem bB_ge {bs : List UInt8} {i : Nat} (h : bs.length ≤ i) : bB bs i = 0 := by
  unfold bB; rw [bat_ge h]; rfl
theorem top_len (n : Nat) : IntKind.u64.wrap (((n : Int) % 256) * 72057594037927936) = n64 (BitVec.ofNat 64 (n % 256) <<< 56) := by
  have h := u64_shl_bv (BitVec.ofNat 64 (n % 256)) 56
  rw [n64_ofNat _ (by omega)] at h
  rw [show (((n % 256 : Nat) : Int)) = (n : Int) % 256 by omega] at h
  exact h

set_option maxHeartbeats 4000000 in
theorem rtag_t (x y : BitVec 64) (v : Value) (bs : List UInt8) (w0 : World) (hr : Rd w0 v bs) (hlen : bs.length ≤ 1048576) :
    Calls Try.prog 19 #[U64 x, U64 y, v] w0 fun e w' => e = .returned (U64 (rtagB x y bs)) ∧ Below w0.heap.size w0 w' := by
  obtain ⟨a, c, rfl, hc, hm, hcell⟩ := hr
  unfold maxLen at hm
  have H := hid hcell
  clear hcell
  go_enter Try.func19, Try.ntmps19
  go_wp2_with fail
  go_outline
  go_loopw [8] (fun i wr => ∃ m : Nat, i = .int .i64 m ∧ m ≤ bs.length / 8 + 1 ∧ wr.heap[w0.heap.size]? = some (.cells (Sip.rwords (Sip.init x y) bs m).cells 61 (0, 0)) ∧ Below w0.heap.size w0 wr) (fun i _ => bs.length / 8 + 1 - (intOf i).toNat)
  case atStart => exact ⟨0, rfl, by omega, heap_alloc_new _ _, (Below.refl _ _).alloc (Nat.le_refl _) _⟩
  case round =>
    obtain ⟨m, rfl, hm, hg, hbl⟩ := hrel
    have HG := hid hg
    have HB := hid hbl
    clear hg hbl
    by_cases hlt : m < bs.length / 8 + 1
    · go_wp2_with fail
      go_loop [9, 10] (fun q k => ∃ j : Nat, k = .int .i64 (7 - j) ∧ j ≤ 8 ∧ q = U64 (rAux bs m j)) (fun q k => (intOf k + 1).toNat)
      case atStart => exact ⟨0, rfl, by omega, rfl⟩
      case round =>
        obtain ⟨j, rfl, hj, rfl⟩ := hrel
        have HA := hid (show rAux bs m (j + 1) = (rAux bs m j) <<< 8 + bB bs (8 * m + (7 - j)) from rfl)
        generalize hz : rAux bs m j = z at *
        have HZ := hid hz
        clear hz
        have h256 := n64_256 z
        by_cases hj8 : j < 8
        · by_cases hin : 8 * m + (7 - j) < bs.length
          · obtain ⟨g, off, rfl, hv⟩ := H.out (8 * m + (7 - j)) _ (List.getElem?_eq_getElem hin)
            have hv' : wr.cell? ⟨g, off + (8 * m + (7 - j)), none⟩ = _ := (HB.out.cell (p := ⟨g, off + (8 * m + (7 - j)), none⟩) (lt_of_cell hv)).trans hv
            have HU := hid (bB_lt hin)
            have hu := bs[8 * m + (7 - j)].toNat_lt
            generalize bs[8 * m + (7 - j)] = u at *
            go_wp2
            refine ⟨⟨j + 1, by congr 1; omega, by omega, vi ?_⟩, by simp [intOf]; omega⟩
            rw [HA.out, ← HU.out, u64_add_bv]
          · have HU := hid (bB_ge (bs := bs) (i := 8 * m + (7 - j)) (by omega))
            go_wp2
            refine ⟨⟨j + 1, by congr 1; omega, by omega, vi ?_⟩, by simp [intOf]; omega⟩
            rw [HA.out, HU.out]; simp
        · obtain rfl : j = 8 := by omega
          have HW := hid (show Sip.rwords (Sip.init x y) bs (m + 1) = (Sip.rwords (Sip.init x y) bs m).rword (rWord bs m) from rfl)
          generalize Sip.rwords (Sip.init x y) bs m = q at *
          obtain ⟨a1, b1, c1, d1⟩ := q
          have HG1 : Hid (wr.heap[w0.heap.size]? = some (.cells #[U64 a1, U64 b1, U64 c1, U64 d1] 61 (0, 0))) := hid HG.out
          have hsz := HB.out.size
          obtain ⟨h0, h1, h2, h3, hf⟩ := cells4 HG1.out
          by_cases hlast : m = bs.length / 8
          · have hb : ((m : Int) == (bs.length : Int) / 8) = true := by rw [beq_iff_eq]; omega
            have htop := top_len bs.length
            have HM := hid (show rWord bs m = z + BitVec.ofNat 64 (bs.length % 256) <<< 56 by rw [rWord, if_pos hlast, HZ.out])
            clear hlast
            go_wp2_with fail
            generalize z + BitVec.ofNat 64 (bs.length % 256) <<< 56 = M at *
            refine (rounds_t ⟨a1, b1, c1, d1 ^^^ M⟩ 2 (by decide) _).mono ?_
            rintro e w2 ⟨rfl, hbl2⟩
            have G2 : Hid (w2.heap[w0.heap.size]? = some (.cells #[U64 a1, U64 b1, U64 c1, U64 (d1 ^^^ M)] 61 (0, 0))) := hid ((hbl2.block _ (by simp [World.setCell]; exact lt_of_cell h0)).trans (heap_setCell_same _ _ 3 _ _ _ HG1.out))
            have HB2 := hid (Below.trans (HB.out.setCell (p := ⟨w0.heap.size, 3, none⟩) (Nat.le_refl _) (U64 (d1 ^^^ M))) (hbl2.mono (by simp [World.setCell]; omega)))
            have HQ := hid (show (Sip.mk a1 b1 c1 d1).rword M = (let u := Sip.rrounds 2 ⟨a1, b1, c1, d1 ^^^ M⟩; Sip.mk (u.a ^^^ M) u.b u.c u.d) from rfl)
            clear h0 h1 h2 h3 hf hbl2
            generalize Sip.rrounds 2 ⟨a1, b1, c1, d1 ^^^ M⟩ = q2 at *
            obtain ⟨a2, b2, c2, d2⟩ := q2
            rw [show (Sip.mk a2 b2 c2 d2).cells = #[U64 a2, U64 b2, U64 c2, U64 d2] from rfl]
            obtain ⟨h0, h1, h2, h3, hf⟩ := cells4 G2.out
            go_wp2
            refine ⟨⟨m + 1, by go_num, by omega, ?_, ?_⟩, by simp [intOf]; omega⟩
            · rw [HW.out, HM.out, HQ.out]
              exact heap_setCell_same _ _ 0 _ _ _ (store4 G2.out _ _ _ _)
            · exact (below_store4 HB2.out (Nat.le_refl _) _ _ _ _).setCell (Nat.le_refl _) _
          · have hb : ((m : Int) == (bs.length : Int) / 8) = false := by rw [beq_eq_false_iff_ne]; omega
            have HM := hid (show rWord bs m = z by rw [rWord, if_neg hlast, HZ.out])
            clear hlast
            go_wp2_with fail
            generalize z = M at *
            refine (rounds_t ⟨a1, b1, c1, d1 ^^^ M⟩ 2 (by decide) _).mono ?_
            rintro e w2 ⟨rfl, hbl2⟩
            have G2 : Hid (w2.heap[w0.heap.size]? = some (.cells #[U64 a1, U64 b1, U64 c1, U64 (d1 ^^^ M)] 61 (0, 0))) := hid ((hbl2.block _ (by simp [World.setCell]; exact lt_of_cell h0)).trans (heap_setCell_same _ _ 3 _ _ _ HG1.out))
            have HB2 := hid (Below.trans (HB.out.setCell (p := ⟨w0.heap.size, 3, none⟩) (Nat.le_refl _) (U64 (d1 ^^^ M))) (hbl2.mono (by simp [World.setCell]; omega)))
            have HQ := hid (show (Sip.mk a1 b1 c1 d1).rword M = (let u := Sip.rrounds 2 ⟨a1, b1, c1, d1 ^^^ M⟩; Sip.mk (u.a ^^^ M) u.b u.c u.d) from rfl)
            clear h0 h1 h2 h3 hf hbl2
            generalize Sip.rrounds 2 ⟨a1, b1, c1, d1 ^^^ M⟩ = q2 at *
            obtain ⟨a2, b2, c2, d2⟩ := q2
            rw [show (Sip.mk a2 b2 c2 d2).cells = #[U64 a2, U64 b2, U64 c2, U64 d2] from rfl]
            obtain ⟨h0, h1, h2, h3, hf⟩ := cells4 G2.out
            go_wp2
            refine ⟨⟨m + 1, by go_num, by omega, ?_, ?_⟩, by simp [intOf]; omega⟩
            · rw [HW.out, HM.out, HQ.out]
              exact heap_setCell_same _ _ 0 _ _ _ (store4 G2.out _ _ _ _)
            · exact (below_store4 HB2.out (Nat.le_refl _) _ _ _ _).setCell (Nat.le_refl _) _
    · obtain rfl : m = bs.length / 8 + 1 := by omega
      have HT := hid (show rtagB x y bs = (Sip.rwords (Sip.init x y) bs (bs.length / 8 + 1)).rtail from rfl)
      generalize Sip.rwords (Sip.init x y) bs (bs.length / 8 + 1) = q at *
      obtain ⟨a1, b1, c1, d1⟩ := q
      have HG1 : Hid (wr.heap[w0.heap.size]? = some (.cells #[U64 a1, U64 b1, U64 c1, U64 d1] 61 (0, 0))) := hid HG.out
      have hsz := HB.out.size
      obtain ⟨h0, h1, h2, h3, hf⟩ := cells4 HG1.out
      go_wp2_with fail
      refine (rounds_t ⟨a1, b1, c1 ^^^ 255#64, d1⟩ 4 (by decide) _).mono ?_
      rintro e w2 ⟨rfl, hbl2⟩
      have G2 : Hid (w2.heap[w0.heap.size]? = some (.cells #[U64 a1, U64 b1, U64 (c1 ^^^ 255#64), U64 d1] 61 (0, 0))) := hid ((hbl2.block _ (by simp [World.setCell]; exact lt_of_cell h0)).trans (heap_setCell_same _ _ 2 _ _ _ HG1.out))
      have HB2 := hid (Below.trans (HB.out.setCell (p := ⟨w0.heap.size, 2, none⟩) (Nat.le_refl _) (U64 (c1 ^^^ 255#64))) (hbl2.mono (by simp [World.setCell]; omega)))
      have HQ := hid (HT.out.trans (show (Sip.mk a1 b1 c1 d1).rtail = (Sip.rrounds 4 ⟨a1, b1, c1 ^^^ 255#64, d1⟩).out from rfl))
      clear h0 h1 h2 h3 hf hbl2
      generalize Sip.rrounds 4 ⟨a1, b1, c1 ^^^ 255#64, d1⟩ = q2 at *
      obtain ⟨a2, b2, c2, d2⟩ := q2
      rw [show (Sip.mk a2 b2 c2 d2).cells = #[U64 a2, U64 b2, U64 c2, U64 d2] from rfl]
      obtain ⟨h0, h1, h2, h3, hf⟩ := cells4 G2.out
      go_wp2
      go_ret
      exact ⟨by rw [HQ.out]; rfl, below_store4 HB2.out (Nat.le_refl _) _ _ _ _⟩
end Go.Proofs.Ytcnfmkhkibfpbaa
