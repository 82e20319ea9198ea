/- The walks of 'word' and 'low' of the program's SipHash. -/
import Derived.Test.YtcnfmkhkibfpbaaSip
namespace Go.Proofs.Ytcnfmkhkibfpbaa
open Go Go.RowKit
attribute [local go_sem] u64_xor_bv u64_add_bv u64_add_bv' u64_or_bv

def Sip.word (v : Sip) (m : BitVec 64) : Sip :=
  let u := (Sip.mk v.a v.b v.c (v.d ^^^ m)).round.round
  ⟨u.a ^^^ m, u.b, u.c, u.d⟩

set_option maxHeartbeats 1000000 in
theorem word_t (g : Nat) (t : TypeId) (v : Sip) (m : BitVec 64) (w : World) (hg : w.heap[g]? = some (.cells v.cells t (0, 0))) :
    Calls Try.prog 29 #[.pointer (some ⟨g, 0, none⟩), U64 m] w fun e w' => e = .returned (.tuple #[]) ∧ w'.heap[g]? = some (.cells (v.word m).cells t (0, 0)) ∧ w.grownBy w' (some g) := by
  obtain ⟨a, b, c, d⟩ := v
  have G0 : Hid (w.heap[g]? = some (.cells #[U64 a, U64 b, U64 c, U64 d] t (0, 0))) := hid hg
  clear hg
  go_enter Try.func29, Try.ntmps29
  obtain ⟨h0, h1, h2, h3, hf⟩ := cells4 G0.out
  go_wp2
  go_still_tail 8, (by kernel_rfl)
  go_wp2_with fail
  have p : _ = some (Obj.cells #[U64 a, U64 b, U64 c, U64 (d ^^^ m)] t (0, 0)) ∧ _ := put4 G0.out 3 (U64 (d ^^^ m))
  generalize (w.setCell ⟨g, 3, none⟩ (U64 (d ^^^ m))).drew = w1 at *
  have G1 := hid p.1
  have R1 := hid p.2
  clear p h0 h1 h2 h3 hf
  refine (round_t g t ⟨a, b, c, d ^^^ m⟩ _ G1.out).mono ?_
  rintro e w2 ⟨rfl, hg2, hr2⟩
  have G2 := hid hg2
  have R2 := hid hr2
  clear hg2 hr2
  go_wp2_with fail
  refine (round_t g t _ _ G2.out).mono ?_
  rintro e w3 ⟨rfl, hg3, hr3⟩
  have HE : (Sip.mk a b c d).word m = (let u := (Sip.mk a b c (d ^^^ m)).round.round; ⟨u.a ^^^ m, u.b, u.c, u.d⟩) := rfl
  generalize (Sip.mk a b c (d ^^^ m)).round.round = u at *
  obtain ⟨a', b', c', d'⟩ := u
  have G3 : Hid (w3.heap[g]? = some (.cells #[U64 a', U64 b', U64 c', U64 d'] t (0, 0))) := hid hg3
  have R3 := hid hr3
  have HE' := hid HE
  clear hg3 hr3 HE
  obtain ⟨h0, h1, h2, h3, hf⟩ := cells4 G3.out
  go_wp2
  go_still_tail 8, (by kernel_rfl)
  go_wp2
  have p : _ = some (Obj.cells #[U64 (a' ^^^ m), U64 b', U64 c', U64 d'] t (0, 0)) ∧ _ := put4 G3.out 0 (U64 (a' ^^^ m))
  generalize (w3.setCell ⟨g, 0, none⟩ (U64 (a' ^^^ m))).drew = w4 at *
  go_end0
  exact ⟨rfl, by rw [HE'.out]; exact p.1, grown_trans (grown_trans (grown_trans R1.out R2.out) R3.out) p.2⟩

/-- what 'low' makes of bytes from place i on, behind m -/
def lowB (m : BitVec 64) : Nat → List UInt8 → BitVec 64
  | _, [] => m
  | i, u :: l => lowB (m ||| (BitVec.ofNat 64 u.toNat <<< (8 * i))) (i + 1) l
theorem lowB_snoc (l : List UInt8) (u : UInt8) : ∀ (m : BitVec 64) (i : Nat), lowB m i (l ++ [u]) = lowB m i l ||| (BitVec.ofNat 64 u.toNat <<< (8 * (i + l.length))) := by
  induction l with
  | nil => intro m i; simp [lowB]
  | cons x l ih => intro m i; simp only [List.cons_append, lowB, ih, List.length_cons]; rw [show i + 1 + l.length = i + (l.length + 1) by omega]
theorem n64_byte (u : UInt8) : (u.toNat : Int) = n64 (BitVec.ofNat 64 u.toNat) := by
  have := u.toNat_lt
  unfold n64; simp only [BitVec.toNat_ofNat]; omega
theorem shl_byte (u : UInt8) (i : Nat) : IntKind.u64.wrap ((u.toNat : Int) * 2 ^ (8 * i)) = n64 (BitVec.ofNat 64 u.toNat <<< (8 * i)) := by
  rw [n64_byte, u64_shl_bv]

theorem low_t (v : Value) (bs : List UInt8) (w : World) (hr : Rd w v bs) (h8 : bs.length ≤ 8) :
    Calls Try.prog 30 #[v] w fun e w' => e = .returned (U64 (lowB 0 0 bs)) ∧ w = w' := by
  obtain ⟨a, c, rfl, hc, hm, hcell⟩ := hr
  unfold maxLen at hm
  have H := hid hcell
  clear hcell
  go_enter Try.func30, Try.ntmps30
  go_wp2
  go_loop [3, 8] (fun x k => ∃ m : Nat, k = .int .i64 m ∧ m ≤ bs.length ∧ x = U64 (lowB 0 0 (bs.take m))) (fun x k => bs.length - (intOf k).toNat)
  case atStart => exact ⟨0, rfl, by omega, rfl⟩
  case round =>
    obtain ⟨m, rfl, hm, rfl⟩ := hrel
    by_cases hlt : m < bs.length
    · obtain ⟨g, off, rfl, hv⟩ := H.out m _ (List.getElem?_eq_getElem hlt)
      have HS := hid (take_snoc hlt)
      have hu := bs[m].toNat_lt
      have hsh := shl_byte bs[m] m
      have HL := hid (lowB_snoc (bs.take m) bs[m] 0 0)
      generalize bs[m] = u at *
      generalize hy : lowB 0 0 (bs.take m) = y at *
      clear hy
      go_wp2
      refine ⟨⟨m + 1, by go_num, by omega, vi ?_⟩, by simp [intOf]; omega⟩
      rw [HS.out, HL.out, List.length_take, Nat.min_eq_left hm, Nat.zero_add]
    · go_wp2
      go_ret
      obtain rfl : m = bs.length := by omega
      exact ⟨by rw [List.take_of_length_le (Nat.le_refl _)]; rfl, rfl⟩
end Go.Proofs.Ytcnfmkhkibfpbaa
