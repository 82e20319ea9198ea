/- The walk of frame.bytes. -/
import Derived.Test.YtjlmbmamkhneiaaHed
namespace Go.Proofs.Ytjlmbmamkhneiaa.OutP
open Go Go.RowKit
set_option maxRecDepth 100000
theorem rdV_three (w : World) (x y z : Nat) : RdV (w.alloc (.cells #[.int .u64 x, .int .u64 y, .int .u64 z] 131)) (.slice (some ⟨w.heap.size, 0, none⟩) 3 3) ([x, y, z].map N64) :=
  ⟨_, _, rfl, fun j u hu => ⟨w.heap.size, 0, rfl, by rw [Nat.zero_add, cell_of_row _ _ _ _ _ _ (heap_alloc_new w _)]; simpa using hu⟩⟩
theorem StO.three {w0 w : World} {base : Nat} {v : Value} {bs : List UInt8} (s : StO w0 base w v bs) (m : Nat) (hm1 : 1 ≤ m) (hm8 : m ≤ 8) (x y z : Nat) (hx : x < 18446744073709551616) (hy : y < 18446744073709551616) (hz : z < 18446744073709551616) (hroom : bs.length + m * 3 ≤ 65536) (n : Int) (hn : n = (8 * m : Nat)) (g : Nat) (hg : g = w.heap.size) :
    Calls Try.prog 84 #[.pointer (some ⟨base, 0, none⟩), .int .i64 n, .slice (some ⟨g, 0, none⟩) 3 3] (w.alloc (.cells #[.int .u64 x, .int .u64 y, .int .u64 z] 131)) fun e w' => e = .returned (.int .i64 0) ∧ ∃ v', StO w0 base w' v' (bs ++ (be m x ++ be m y ++ be m z)) := by
  subst hn hg
  have hl := s.out.lt
  refine (bits_t _ base base v bs (s.out.alloc _) (by have := s.le; simp; omega) m hm1 hm8 _ [x, y, z] (rdV_three w x y z) ?_ (by intro i hi; simp at hi; omega) (by simpa using hroom) (by simp)).mono ?_
  · intro g hg
    have hg' : w.heap.size = g := by simpa [Value.ownBlock] using hg
    rintro (e | e)
    · omega
    · have := hl.2 g e; omega
  · rintro e w' ⟨rfl, v', ho, hc, hvb⟩
    have e : bes m [x, y, z] = be m x ++ be m y ++ be m z := by simp [bes]
    rw [e] at ho
    refine ⟨rfl, v', ho, ?_, ?_⟩
    · have := hc.size; have := s.le; simp at *; omega
    · exact kept_below (s.below.alloc s.le _) (s.out.alloc _) ⟨hc, hvb⟩
theorem StO.text {w0 w : World} {base : Nat} {v : Value} {bs : List UInt8} (s : StO w0 base w v bs) (sv : Value) (cs : List UInt8) (hs : Rd w sv cs) (hb : ∀ g, sv.ownBlock = some g → g < base) (hroom : bs.length + cs.length ≤ 65536) (g : Nat) (hg : g = w.heap.size) :
    Calls Try.prog 91 #[.pointer (some ⟨base, 0, none⟩), .slice (some ⟨g, 0, none⟩) 1 1] (w.alloc (.cells #[sv] 22)) fun e w' => e = .returned (.int .i64 0) ∧ ∃ v', StO w0 base w' v' (bs ++ cs) := by
  subst hg
  have hl := s.out.lt
  refine (bytes_t _ base base v bs (s.out.alloc _) (by have := s.le; simp; omega) w.heap.size 1 sv cs ?_ (hs.alloc _) ?_ ?_ hroom).mono ?_
  · rw [cell_of_row _ _ _ _ _ _ (heap_alloc_new w _)]; rfl
  · rintro (e | e)
    · omega
    · have := hl.2 _ e; omega
  · intro g hg
    have := hb g hg
    rintro (e | e)
    · omega
    · have := own_base s.out.own g e; omega
  · rintro e w' ⟨rfl, v', ho, hk⟩
    refine ⟨rfl, v', ho, ?_, ?_⟩
    · have := hk.1.size; have := s.le; simp at *; omega
    · exact kept_below (s.below.alloc s.le _) (s.out.alloc _) hk
theorem cells4 {w : World} {g : Nat} {t : TypeId} {x0 x1 x2 x3 : Value} (hg : w.heap[g]? = some (.cells #[x0, x1, x2, x3] t (0, 0))) :
    w.cell? ⟨g, 0, none⟩ = some x0 ∧ w.cell? ⟨g, 1, none⟩ = some x1 ∧ w.cell? ⟨g, 2, none⟩ = some x2 ∧ w.cell? ⟨g, 3, none⟩ = some x3 :=
  ⟨by rw [cell_of_row w g 0 _ t _ hg]; rfl, by rw [cell_of_row w g 1 _ t _ hg]; rfl, by rw [cell_of_row w g 2 _ t _ hg]; rfl, by rw [cell_of_row w g 3 _ t _ hg]; rfl⟩
/-- A frame's bytes, without their sum, and whole. -/
def frHead (gen num term : Nat) (b : List UInt8) : List UInt8 := be 1 165 ++ (be 4 gen ++ be 4 num ++ be 4 term) ++ be 2 b.length ++ b
def frBytes (gen num term : Nat) (b : List UInt8) : List UInt8 := frHead gen num term b ++ be 4 (crcN (frHead gen num term b))
theorem own_base' {w : World} {b b' : Nat} {e : TypeId} {size n : Nat} {v : Value} {xs : List Value} (h : w.ownsRow b e size v n xs) (hb : b' ≤ b) : w.ownsRow b' e size v n xs := by
  refine ⟨h.1, ?_⟩
  rcases h.2 with hn | ⟨g, cap, cur, hv, hg, r⟩
  · exact .inl hn
  · exact .inr ⟨g, cap, cur, hv, Nat.le_trans hb hg, r⟩
set_option maxHeartbeats 4000000 in
theorem frame_t (w : World) (gen num term : Nat) (hg : gen < 4294967296) (hn : num < 4294967296) (ht : term < 4294967296) (sv : Value) (b : List UInt8) (hs : Rd w sv b) (hsb : ∀ g, sv.ownBlock = some g → g < w.heap.size) (hb : b.length ≤ 1024) :
    Calls Try.prog 82 #[.agg #[.int .u32 gen, .int .u32 num, .int .u32 term, sv]] w fun e w' => ∃ r, e = .returned r ∧ w'.ownsRow w.heap.size 5 1 r (frBytes gen num term b).length ((frBytes gen num term b).map B) ∧ Chg (fun _ => False) w w' := by
  have hw1 : IntKind.u64.wrap (gen : Int) = gen := by rw [IntKind.wrap_u64]; omega
  have hw2 : IntKind.u64.wrap (num : Int) = num := by rw [IntKind.wrap_u64]; omega
  have hw3 : IntKind.u64.wrap (term : Int) = term := by rw [IntKind.wrap_u64]; omega
  have hw4 : IntKind.u64.wrap (b.length : Int) = b.length := by rw [IntKind.wrap_u64]; omega
  have HS := hid hs
  have HSB := hid hsb
  obtain ⟨sa, sc, rfl, _⟩ := hs
  clear hsb
  go_enter Try.func82, Try.ntmps82
  go_wp2_with fail
  have hf0 := heap_alloc_new w (.cells #[.int .u32 gen, .int .u32 num, .int .u32 term, .slice sa b.length sc] 111)
  have hc0 : Chg (fun _ => False) w _ := (Chg.refl _ w).alloc (.cells #[.int .u32 gen, .int .u32 num, .int .u32 term, .slice sa b.length sc] 111)
  have hs0 := HS.out.alloc (.cells #[.int .u32 gen, .int .u32 num, .int .u32 term, .slice sa b.length sc] 111)
  have hz0 := World.size_alloc w (.cells #[.int .u32 gen, .int .u32 num, .int .u32 term, .slice sa b.length sc] 111)
  generalize w.alloc (.cells #[.int .u32 gen, .int .u32 num, .int .u32 term, .slice sa b.length sc] 111) = w0 at *
  obtain ⟨k, hk⟩ : ∃ k, k = w.heap.size := ⟨_, rfl⟩
  rw [← hk] at hf0 hz0 HSB ⊢
  have HF := hid hf0
  have HC := hid hc0
  have HR := hid hs0
  have HK := hid hk
  have HZ := hid hz0
  clear hf0 hc0 hs0 hk hz0 HS
  refine (new_t w0 w0.heap.size (Nat.le_refl _)).mono ?_
  rintro e w1 ⟨rfl, ho, hc⟩
  have S1 := hid (show StO w0 w0.heap.size w1 _ [] from ⟨ho, hc.size, hc.os, hc.tape, hc.output, hc.size, fun i hi => hc.block i hi (fun e => e)⟩)
  clear ho hc
  obtain ⟨base, hbase⟩ : ∃ b, b = w0.heap.size := ⟨_, rfl⟩
  rw [← hbase] at S1 ⊢
  have HBase := hid hbase
  have HKB : Hid (k < base) := hid (by have := HZ.out; omega)
  clear hbase
  have hcell : ∀ w' v l, StO w0 base w' v l → w'.heap[k]? = some (.cells #[.int .u32 gen, .int .u32 num, .int .u32 term, .slice sa b.length sc] 111 (0, 0)) := fun _ _ _ s => (s.below.block k HKB.out).trans HF.out
  have hrec : ∀ w' v l, StO w0 base w' v l → Rd w' (.slice sa b.length sc) b := fun _ _ _ s => HR.out.below (HBase.out ▸ s.below)
  have HCell := hid hcell
  have HRec := hid hrec
  clear hcell hrec
  go_wp2_with fail
  refine (S1.out.num 1 (by omega) (by omega) 165 (by omega) (by simp) _ rfl _ rfl).mono ?_
  rintro e w2 ⟨rfl, v2, s⟩
  have S2 := hid s
  clear s
  obtain ⟨c0, c1, c2, c3⟩ := cells4 (HCell.out _ _ _ S2.out)
  go_wp2_with fail
  refine (S2.out.three 4 (by omega) (by omega) gen num term (by omega) (by omega) (by omega) (by simp [be_len]) _ rfl _ rfl).mono ?_
  clear c0 c1 c2 c3
  rintro e w3 ⟨rfl, v3, s⟩
  have S3 := hid s
  clear s
  obtain ⟨c0, c1, c2, c3⟩ := cells4 (HCell.out _ _ _ S3.out)
  go_wp2_with fail
  refine (S3.out.num 2 (by omega) (by omega) b.length (by omega) (by simp [be_len]) _ rfl _ rfl).mono ?_
  clear c0 c1 c2 c3
  rintro e w4 ⟨rfl, v4, s⟩
  have S4 := hid s
  clear s
  obtain ⟨c0, c1, c2, c3⟩ := cells4 (HCell.out _ _ _ S4.out)
  go_wp2_with fail
  refine (S4.out.text _ b (HRec.out _ _ _ S4.out) (fun g hg => Nat.lt_trans (HSB.out g hg) HKB.out) (by simp [be_len]; omega) _ rfl).mono ?_
  clear c0 c1 c2 c3
  rintro e w5 ⟨rfl, v5, s⟩
  have S5 := hid (show StO w0 base w5 v5 (frHead gen num term b) from s)
  have hl : (frHead gen num term b).length = 15 + b.length := by simp [frHead, be_len]; omega
  have HL := hid hl
  clear s hl
  go_wp2_with fail
  refine (done_t w5 base base v5 _ _ S5.out.out (by have := HL.out; omega)).mono ?_
  rintro e w6 ⟨r, rfl, ho, hc⟩
  have HRd := hid (Rd.of_owns ho)
  have S6 := hid (S5.out.chg hc)
  obtain ⟨ra, rc, rfl⟩ := own_shape ho
  clear ho hc
  go_wp2_with fail
  refine (crc_t _ _ _ (rdS_one 22 HRd.out)).mono ?_
  rintro e w7 ⟨rfl, rfl⟩
  rw [show [frHead gen num term b].flatten = frHead gen num term b by simp, crcN_eq]
  have hcl := crcN_lt (frHead gen num term b)
  generalize hcn : crcN (frHead gen num term b) = cn at *
  have HCN := hid hcn
  clear hcn
  have hwc : IntKind.u64.wrap (cn : Int) = cn := by rw [IntKind.wrap_u64]; omega
  go_wp2_with fail
  refine ((S6.out.alloc _).num 4 (by omega) (by omega) cn (by omega) (by have := HL.out; omega) _ rfl _ (World.size_alloc _ _).symm).mono ?_
  rintro e w8 ⟨rfl, v8, s⟩
  have S8 := hid s
  clear s
  go_wp2_with fail
  refine (done_t w8 base base v8 _ _ S8.out.out (by have := HL.out; simp [be_len]; omega)).mono ?_
  rintro e w9 ⟨r9, rfl, ho, hc⟩
  have hb8 : w.heap.size ≤ w8.heap.size := by have := S8.out.le; have := HBase.out; have := HZ.out; have := HK.out; omega
  have R9 := hid (own_base' ho hb8)
  have S9 := hid (S8.out.chg hc)
  clear ho hc
  go_wp2_with fail
  go_ret
  refine ⟨_, rfl, by unfold frBytes; rw [HCN.out]; exact R9.out, ?_⟩
  have bl := S9.out.below
  exact HC.out.trans (T := fun _ => False) ⟨bl.os, bl.tape, bl.output, bl.size, fun i hi _ => bl.block i (by rw [HBase.out]; exact hi)⟩ (fun _ _ e => e)
end Go.Proofs.Ytjlmbmamkhneiaa.OutP
