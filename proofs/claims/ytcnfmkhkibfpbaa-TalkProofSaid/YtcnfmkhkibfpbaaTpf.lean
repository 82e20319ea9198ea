/- The walk of the law TalkProof. -/
import Derived.Test.YtcnfmkhkibfpbaaPrf
import Derived.Test.YtcnfmkhkibfpbaaTalk
namespace Go.Proofs.Ytcnfmkhkibfpbaa
open Go Go.RowKit
set_option maxRecDepth 100000 in
set_option maxHeartbeats 4000000 in
theorem talkProof_t (x y : BitVec 64) (kind : Int) (s : ByteArray) (nonce mac ip : Nat) (hn : nonce < 18446744073709551616) (hm : mac < 18446744073709551616) (hi : ip < 4294967296) (w : World) :
    Calls Try.prog 11 #[U64 x, U64 y, .int .i64 kind, .string s, .int .u64 nonce, .int .u64 mac, .int .u32 ip] w fun e w' => e = .returned (.bool true) ∧ Below w.heap.size w w' := by
  have HN := hid hn
  have HM := hid hm
  have HI := hid hi
  clear hn hm hi
  by_cases hl : (300 : Int) < s.size
  · have h300 : 300 ≤ s.size := by omega
    have HSX := hid (show (s.extract 0 300).size ≤ 65536 by rw [ByteArray.size_extract]; omega)
    go_enter Try.func11, Try.ntmps11
    go_wp2_with fail
    refine (proof_t x y kind (s.extract 0 300) HSX.out nonce mac ip HN.out HM.out HI.out _).mono ?_
    rintro e w2 ⟨rfl, hb⟩
    have HC := hid hb
    clear hb
    rw [tag_eq]
    go_wp2_with fail
    refine (rproof_t x y kind (s.extract 0 300) HSX.out nonce mac ip HN.out HM.out HI.out _).mono ?_
    rintro e w3 ⟨rfl, hb⟩
    have HC2 := hid (HC.out.trans hb (fun _ _ e => e))
    clear hb
    generalize rtagB x y _ = t at *
    go_wp2_with fail
    refine (awake7_t _).mono ?_
    rintro e w4 ⟨rfl, hc⟩
    have HC3 := hid (HC2.out.trans hc (fun _ _ e => e))
    clear hc
    go_wp2
    go_ret
    exact ⟨rfl, HC3.out.below (fun _ h => h.elim) (Nat.le_refl _)⟩
  · have HSX := hid (show s.size ≤ 65536 by omega)
    go_enter Try.func11, Try.ntmps11
    go_wp2_with fail
    refine (proof_t x y kind s HSX.out nonce mac ip HN.out HM.out HI.out _).mono ?_
    rintro e w2 ⟨rfl, hb⟩
    have HC := hid hb
    clear hb
    rw [tag_eq]
    go_wp2_with fail
    refine (rproof_t x y kind s HSX.out nonce mac ip HN.out HM.out HI.out _).mono ?_
    rintro e w3 ⟨rfl, hb⟩
    have HC2 := hid (HC.out.trans hb (fun _ _ e => e))
    clear hb
    generalize rtagB x y _ = t at *
    go_wp2_with fail
    refine (awake7_t _).mono ?_
    rintro e w4 ⟨rfl, hc⟩
    have HC3 := hid (HC2.out.trans hc (fun _ _ e => e))
    clear hc
    go_wp2
    go_ret
    exact ⟨rfl, HC3.out.below (fun _ h => h.elim) (Nat.le_refl _)⟩
end Go.Proofs.Ytcnfmkhkibfpbaa
