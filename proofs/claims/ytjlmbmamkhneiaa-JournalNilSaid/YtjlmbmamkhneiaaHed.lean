/- The walk of journal.head. -/
import Derived.Test.YtjlmbmamkhneiaaInc
namespace Go.Proofs.Ytjlmbmamkhneiaa.OutP
open Go Go.RowKit
set_option maxRecDepth 100000
theorem xor_range32 (a b : Int) : 0 ≤ bits .xor .u32 a b ∧ bits .xor .u32 a b < 4294967296 := by
  have : ∀ n : Int, 0 ≤ IntKind.u32.wrap n ∧ IntKind.u32.wrap n < 4294967296 := fun n => by rw [IntKind.wrap_u32]; omega
  exact this _
/-- The sum of bytes. -/
def crcN (l : List UInt8) : Nat := (bits .xor .u32 4294967295 (crcI 4294967295 l)).toNat
theorem crcN_eq (l : List UInt8) : bits .xor .u32 4294967295 (crcI 4294967295 l) = (crcN l : Int) := by
  have := xor_range32 4294967295 (crcI 4294967295 l); unfold crcN; omega
theorem crcN_lt (l : List UInt8) : crcN l < 4294967296 := by
  have := xor_range32 4294967295 (crcI 4294967295 l); unfold crcN; omega
/-- The bits stand at block base, above the world w0. -/
structure StO (w0 : World) (base : Nat) (w : World) (v : Value) (bs : List UInt8) : Prop where
  out : OutAt w base base v bs (8 * bs.length)
  le : base ≤ w.heap.size
  below : Below base w0 w
theorem StO.num {w0 w : World} {base : Nat} {v : Value} {bs : List UInt8} (s : StO w0 base w v bs) (m : Nat) (hm1 : 1 ≤ m) (hm8 : m ≤ 8) (u : Nat) (hu : u < 18446744073709551616) (hroom : bs.length + m ≤ 65536) (n : Int) (hn : n = (8 * m : Nat)) (g : Nat) (hg : g = w.heap.size) :
    Calls Try.prog 84 #[.pointer (some ⟨base, 0, none⟩), .int .i64 n, .slice (some ⟨g, 0, none⟩) 1 1] (w.alloc (.cells #[.int .u64 u] 131)) fun e w' => e = .returned (.int .i64 0) ∧ ∃ v', StO w0 base w' v' (bs ++ be m u) := by
  subst hn hg
  refine (bits1_t w base base v bs s.out s.le m hm1 hm8 u hu hroom).mono ?_
  rintro e w' ⟨rfl, v', ho, hk⟩
  refine ⟨rfl, v', ho, ?_, ?_⟩
  · have := hk.1.size; have := s.le; simp at *; omega
  · exact kept_below (s.below.alloc s.le _) (s.out.alloc _) hk
theorem StO.chg {w0 w w' : World} {base : Nat} {v : Value} {bs : List UInt8} (s : StO w0 base w v bs) (c : Chg (fun _ => False) w w') : StO w0 base w' v bs :=
  ⟨⟨(c.block base s.out.lt.1 (fun e => e)).trans s.out.cells, own_chg s.out.own (Chg.ofP c) (fun _ e => e.elim), s.out.low⟩, Nat.le_trans s.le c.size, s.below.trans ⟨c.os, c.tape, c.output, c.size, fun i hi => c.block i (Nat.lt_of_lt_of_le hi s.le) (fun e => e)⟩⟩
theorem StO.alloc {w0 w : World} {base : Nat} {v : Value} {bs : List UInt8} (s : StO w0 base w v bs) (o : Obj) : StO w0 base (w.alloc o) v bs :=
  s.chg ((Chg.refl _ w).alloc o)
set_option maxHeartbeats 4000000 in
theorem head_t (w : World) (gen : Nat) (hgen : gen < 4294967296) : Calls Try.prog 71 #[.int .u32 gen] w fun e w' => ∃ r, e = .returned r ∧
    Rd w' r (be 2 20298 ++ be 4 gen ++ be 4 (crcN (be 2 20298 ++ be 4 gen))) ∧ Chg (fun _ => False) w w' := by
  have hw : IntKind.u64.wrap (gen : Int) = gen := by rw [IntKind.wrap_u64]; omega
  go_enter Try.func71, Try.ntmps71
  go_wp2_with fail
  refine (new_t w w.heap.size (Nat.le_refl _)).mono ?_
  rintro e w1 ⟨rfl, ho, hc⟩
  have S1 := hid (show StO w w.heap.size w1 _ [] from ⟨ho, hc.size, hc.os, hc.tape, hc.output, hc.size, fun i hi => hc.block i hi (fun e => e)⟩)
  clear ho hc
  obtain ⟨base, hbase⟩ : ∃ b, b = w.heap.size := ⟨_, rfl⟩
  rw [← hbase] at S1 ⊢
  have HBase := hid hbase
  clear hbase
  go_wp2_with fail
  refine (S1.out.num 2 (by omega) (by omega) 20298 (by omega) (by simp) _ rfl _ rfl).mono ?_
  rintro e w2 ⟨rfl, v2, s⟩
  have S2 := hid s
  clear s
  go_wp2_with fail
  refine (S2.out.num 4 (by omega) (by omega) gen (by omega) (by simp [be_len]) _ rfl _ rfl).mono ?_
  rintro e w3 ⟨rfl, v3, s⟩
  have S3 := hid s
  clear s
  go_wp2_with fail
  have hl3 : (([] ++ be 2 20298) ++ be 4 gen).length = 6 := by simp [be_len]
  refine (done_t w3 base base v3 _ _ S3.out.out (by omega)).mono ?_
  rintro e w4 ⟨r, rfl, ho, hc⟩
  have HR := hid (Rd.of_owns ho)
  have S4 := hid (S3.out.chg hc)
  obtain ⟨ra, rc, rfl⟩ := own_shape ho
  clear ho hc
  go_wp2_with fail
  refine (crc_t _ _ _ (rdS_one 22 HR.out)).mono ?_
  rintro e w5 ⟨rfl, rfl⟩
  rw [show [([] ++ be 2 20298) ++ be 4 gen].flatten = be 2 20298 ++ be 4 gen by simp, crcN_eq]
  have hcl := crcN_lt (be 2 20298 ++ be 4 gen)
  generalize hcn : crcN (be 2 20298 ++ be 4 gen) = cn at *
  have HCN := hid hcn
  clear hcn
  have hwc : IntKind.u64.wrap (cn : Int) = cn := by rw [IntKind.wrap_u64]; omega
  go_wp2_with fail
  refine ((S4.out.alloc _).num 4 (by omega) (by omega) cn (by omega) (by omega) _ rfl _ (World.size_alloc _ _).symm).mono ?_
  rintro e w6 ⟨rfl, v6, s⟩
  have S6 := hid s
  clear s
  go_wp2_with fail
  refine (done_t w6 base base v6 _ _ S6.out.out (by simp [be_len])).mono ?_
  rintro e w7 ⟨r7, rfl, ho, hc⟩
  have R7 := hid (Rd.of_owns ho)
  have S7 := hid (S6.out.chg hc)
  clear ho hc
  go_wp2_with fail
  go_ret
  refine ⟨_, rfl, by rw [HCN.out]; simpa using R7.out, ?_⟩
  have b := S7.out.below
  exact ⟨b.os, b.tape, b.output, b.size, fun i hi _ => b.block i (by rw [HBase.out]; exact hi)⟩
end Go.Proofs.Ytjlmbmamkhneiaa.OutP
