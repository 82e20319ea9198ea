/- The walk of the examples of chapter 3. -/
import Derived.Test.YtcnfmkhkibfpbaaTag
import Derived.Test.YtcnfmkhkibfpbaaNet
import Derived.Lib.SlBytesConst
namespace Go.Proofs.Ytcnfmkhkibfpbaa
open Go Go.RowKit

theorem rd_lit (w : World) (bs : List UInt8) (e : TypeId) (h : bs.length ≤ 1048576) : Rd (w.alloc (.cells (bs.map B).toArray e)) (.slice (some ⟨w.heap.size, 0, none⟩) bs.length bs.length) bs :=
  ⟨_, _, rfl, Nat.le_refl _, by unfold maxLen; omega, fun j u hu => ⟨w.heap.size, 0, rfl, by rw [Nat.zero_add, cell_of_row _ _ _ _ _ _ (heap_alloc_new w _)]; simp [hu]⟩⟩
theorem rdS_one {w : World} {v : Value} {bs : List UInt8} (e : TypeId) (h : Rd w v bs) : RdS (w.alloc (.cells #[v] e)) (.slice (some ⟨w.heap.size, 0, none⟩) 1 1) [bs] :=
  ⟨_, _, rfl, Nat.le_refl _, by unfold maxLen; omega, fun j b hb => by
    cases j with
    | zero =>
      simp only [List.getElem?_cons_zero, Option.some.injEq] at hb
      subst hb
      exact ⟨w.heap.size, 0, v, rfl, by rw [cell_of_row _ _ _ _ _ _ (heap_alloc_new w _)]; rfl, h.alloc _⟩
    | succ j => simp at hb⟩
theorem rdS_lit (w : World) (bs : List UInt8) (e e' : TypeId) (h : bs.length ≤ 1048576) :
    RdS ((w.alloc (.cells (bs.map B).toArray e)).alloc (.cells #[.slice (some ⟨w.heap.size, 0, none⟩) bs.length bs.length] e')) (.slice (some ⟨w.heap.size + 1, 0, none⟩) 1 1) [bs] := by
  have := rdS_one e' (rd_lit w bs e h)
  rw [World.size_alloc] at this
  exact this
def fst (m : Nat) : List UInt8 := (List.range m).map UInt8.ofNat
/-- A literal's row that bears the run-time's mark behind its last cell. -/
theorem rd_mark (w : World) (bs : List UInt8) (e : TypeId) (h : bs.length ≤ 1048576) (fr : Nat × Nat) : Rd (w.alloc (.cells (bs.map B).toArray e fr)) (.slice (some ⟨w.heap.size, 0, none⟩) bs.length bs.length) bs :=
  ⟨_, _, rfl, Nat.le_refl _, by unfold maxLen; omega, fun j u hu => ⟨w.heap.size, 0, rfl, by rw [Nat.zero_add, cell_of_row _ _ _ _ _ _ (heap_alloc_new w _)]; simp [hu]⟩⟩
theorem rdS_mark (w : World) (bs : List UInt8) (e e' : TypeId) (h : bs.length ≤ 1048576) (fr : Nat × Nat) :
    RdS ((w.alloc (.cells (bs.map B).toArray e fr)).alloc (.cells #[.slice (some ⟨w.heap.size, 0, none⟩) bs.length bs.length] e')) (.slice (some ⟨w.heap.size + 1, 0, none⟩) 1 1) [bs] := by
  have := rdS_one e' (rd_mark w bs e h fr)
  rw [World.size_alloc] at this
  exact this
theorem ex_net : bits .xor .u16 65535 (netI 0 0 [[0, 1, 0xF2, 3, 0xF4, 0xF5, 0xF6, 0xF7]].flatten) = 8717 := by decide +kernel
theorem ex_crc : bits .xor .u32 4294967295 (crcI 4294967295 [[49, 50, 51, 52, 53, 54, 55, 56, 57]].flatten) = 3421780262 := by decide +kernel
theorem ex_tag : n64 (tagB 506097522914230528#64 1084818905618843912#64 [fst 15].flatten) = 11613035633349379557 := by decide +kernel
theorem ex_tag' : U64 (tagB 506097522914230528#64 1084818905618843912#64 [fst 15].flatten) = .int .u64 11613035633349379557 := by
  unfold U64
  rw [ex_tag]
theorem fst_succ (m : Nat) : fst (m + 1) = fst m ++ [UInt8.ofNat m] := by simp [fst, List.range_succ]
theorem fst_len (m : Nat) : (fst m).length = m := by simp [fst]

set_option maxHeartbeats 4000000 in
theorem awake_t (w0 : World) : Calls Try.prog 15 #[] w0 fun e w' => e = .returned (.bool true) ∧ Below w0.heap.size w0 w' := by
  have kc := fun (w : World) (C : Array Value) (n c : Nat) => Lib.run_convert_bytes_const (P := Try.prog) w 22 5 C n c Try.underlying22 Try.underlying5
  go_enter Try.func15, Try.ntmps15
  go_wp2
  go_loopw [1, 2] (fun v k wr => ∃ m : Nat, k = .int .i64 m ∧ m ≤ 15 ∧ wr.ownsRow w0.heap.size 5 1 v (fst m).length ((fst m).map B) ∧ Below w0.heap.size w0 wr) (fun _ k _ => 15 - (intOf k).toNat)
  case atStart => exact ⟨0, rfl, by omega, World.ownsRow_nil _ _ _ _, Below.refl _ _⟩
  case round =>
    obtain ⟨m, rfl, hm, hown, hbl⟩ := hrel
    have HO := hid hown
    have HB := hid hbl
    clear hown hbl
    by_cases hlt : m < 15
    · have HU := hid (show B (UInt8.ofNat m) = .int .u8 (m : Int) by
        unfold B; rw [UInt8.toNat_ofNat_of_lt' (by show m < 256; omega)])
      go_wp2_with (at_builtin; refine wpl_append_bytes rfl _ _ 22 rfl T22 w0.heap.size _ (fst m) rfl (HO.out.alloc _) _ rfl [UInt8.ofNat m] ?c1 ?c2 ?c3 ?c4)
      case c1 =>
        have := rd_lit wr [UInt8.ofNat m] 5 (by simp)
        rw [List.map_cons, List.map_nil, HU.out] at this
        exact this
      case c2 => rw [fst_len]; simp; omega
      case c3 => have := HB.out.size; simp; omega
      case c4 =>
        intro v' w2 hown' hg'
        have HO3 := hid hown'
        have HB3 := hid (below_grown (HB.out.alloc HB.out.size _) (HO.out.alloc _) hg' (by have := HB.out.size; simp; omega))
        clear hown' hg'
        go_wp2
        exact ⟨⟨m + 1, by go_num, by omega, by rw [fst_succ, List.length_append, List.map_append]; exact HO3.out, HB3.out⟩, by simp [intOf]; omega⟩
    · obtain rfl : m = 15 := by omega
      obtain ⟨a1, c1, hv1, hc1, hm1, hcell1⟩ := Rd.of_owns HO.out
      rw [fst_len] at hv1 hc1
      subst hv1
      have HR0 : Hid (Rd wr (.slice a1 15 c1) (fst 15)) := hid ⟨a1, c1, by rw [fst_len], by rw [fst_len]; exact hc1, hm1, hcell1⟩
      clear hc1 hm1 hcell1
      go_wp2_with fail
      refine (net_t _ [[0, 1, 0xF2, 3, 0xF4, 0xF5, 0xF6, 0xF7]] _ (rdS_lit wr [0, 1, 0xF2, 3, 0xF4, 0xF5, 0xF6, 0xF7] 5 22 (by decide)) (by decide)).mono ?_
      rintro e w2 ⟨rfl, hbl⟩
      rw [ex_net]
      have hb2 : Below wr.heap.size wr w2 := (((Below.refl _ wr).alloc (Nat.le_refl _) _).alloc (by simp) _).trans (hbl.mono (by simp; omega))
      have HB2 := hid (HB.out.trans (hb2.mono HB.out.size))
      have HR2 := hid (HR0.out.below hb2)
      clear hbl hb2
      go_wp2_with fail
      refine (crc_t _ _ [[49, 50, 51, 52, 53, 54, 55, 56, 57]] ?_).mono ?_
      · exact rdS_mark w2 [49, 50, 51, 52, 53, 54, 55, 56, 57] 5 22 (by decide) (9, 10)
      rintro e w3 ⟨rfl, rfl⟩
      rw [ex_crc]
      have HB3 := hid ((HB2.out.alloc HB2.out.size (.cells #[.int .u8 49, .int .u8 50, .int .u8 51, .int .u8 52, .int .u8 53, .int .u8 54, .int .u8 55, .int .u8 56, .int .u8 57] 5 (9, 10))).alloc (by have := HB2.out.size; simp; omega) (.cells #[.slice (some ⟨w2.heap.size, 0, none⟩) 9 9] 22))
      have HR3 := hid ((HR2.out.alloc (.cells #[.int .u8 49, .int .u8 50, .int .u8 51, .int .u8 52, .int .u8 53, .int .u8 54, .int .u8 55, .int .u8 56, .int .u8 57] 5 (9, 10))).alloc (.cells #[.slice (some ⟨w2.heap.size, 0, none⟩) 9 9] 22))
      generalize hw3 : (w2.alloc (.cells #[.int .u8 49, .int .u8 50, .int .u8 51, .int .u8 52, .int .u8 53, .int .u8 54, .int .u8 55, .int .u8 56, .int .u8 57] 5 (9, 10))).alloc (.cells #[.slice (some ⟨w2.heap.size, 0, none⟩) 9 9] 22) = w3 at *
      clear hw3
      go_wp2_with fail
      rw [show (Value.int IntKind.u64 506097522914230528) = U64 506097522914230528#64 from vi (by decide +kernel), show (Value.int IntKind.u64 1084818905618843912) = U64 1084818905618843912#64 from vi (by decide +kernel)]
      generalize hl : fst 15 = l15 at *
      have HL := hid hl
      clear hl
      refine (tag_t 506097522914230528#64 1084818905618843912#64 _ [l15] _ (rdS_one 22 HR3.out) (by rw [List.flatten_cons, List.flatten_nil, List.append_nil, ← HL.out, fst_len]; decide)).mono ?_
      rintro e w4 ⟨he, hbl⟩
      rw [← HL.out, vr ex_tag'] at he
      subst he
      have HB4 := hid (Below.trans (HB3.out.alloc HB3.out.size _) (hbl.mono (by have := HB3.out.size; simp; omega)))
      clear hbl
      go_wp2
      go_ret
      exact ⟨rfl, HB4.out⟩
end Go.Proofs.Ytcnfmkhkibfpbaa
