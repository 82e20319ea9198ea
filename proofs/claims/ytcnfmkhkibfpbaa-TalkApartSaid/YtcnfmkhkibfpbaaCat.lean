/- The walks of slices.Grow and slices.Concat at bytes. -/
import Derived.Test.YtcnfmkhkibfpbaaProg
import Derived.Test.YtcnfmkhkibfpbaaApp
namespace Go.Proofs.Ytcnfmkhkibfpbaa
open Go Go.RowKit

theorem T22 : SliceTy Try.prog 22 5 (.int .u8 0) 1 := ⟨by kernel_rfl, ⟨_, rfl, by kernel_rfl, by kernel_rfl, by kernel_rfl⟩⟩
theorem U3 : Try.prog.underlying 3 = some (.int .i64) := by kernel_rfl

theorem grow_t (n : Nat) (hn : n ≤ 1048576) (w : World) :
    Calls Try.prog 41 #[.slice none 0 0, .int .i64 n] w fun e w' => ∃ v, e = .returned v ∧ w'.ownsRow w.heap.size 5 1 v 0 [] ∧ Below w.heap.size w w' := by
  obtain ⟨i, hi, hiz, his, hib⟩ := T22.info
  by_cases h0 : n = 0
  · subst h0
    go_enter Try.func41, Try.ntmps41
    go_wp2
    go_ret
    exact ⟨_, rfl, World.ownsRow_nil _ _ _ _, Below.refl _ _⟩
  · have hpos : 0 < n := by omega
    have hcap : n ≤ grownCap w n 0 5 := grownCap_ge w n 0 5
    have hcm : grownCap w n 0 5 ≤ maxLen := grownCap_le_maxLen w n 0 5 (by unfold maxLen; omega)
    have hr := hid (fun ty => Lib.run_append_nil_zeros (P := Try.prog) w 22 3 ty 5 i (.int .u8 0) .i64 .i64 T22.under U3 hi hiz n hpos (by omega) (by omega) (by rw [hib]; omega))
    have hcs : (Builtin.zeroCells (Value.int .u8 0).cells n ++ Builtin.zeroCells (Value.int .u8 0).cells (grownCap w n 0 5 - n)).size = grownCap w n 0 5 * 1 := by
      rw [Array.size_append, size_zeroCells, size_zeroCells]; simp [Value.cells]; omega
    have hown := hid (World.ownsRow_made (e := 5) (size := 1) w.drew _ _ (Nat.le_refl _) hcm hcs)
    have hbl := hid ((Below.refl w.heap.size w).drew.alloc (Nat.le_refl _) (.cells (Builtin.zeroCells (Value.int .u8 0).cells n ++ Builtin.zeroCells (Value.int .u8 0).cells (grownCap w n 0 5 - n)) 5))
    clear hcs
    unfold maxLen at hcm
    generalize (w.drew.alloc (.cells (Builtin.zeroCells (Value.int .u8 0).cells n ++ Builtin.zeroCells (Value.int .u8 0).cells (grownCap w n 0 5 - n)) 5)) = w1 at *
    generalize grownCap w n 0 5 = c at *
    go_enter Try.func41, Try.ntmps41
    go_wp2_with (at_builtin; refine Lib.wpList_append_run _ rfl _ _ 22 3 rfl _ _ rfl rfl _ _ (hr.out _) ?_)
    go_ret
    exact ⟨_, rfl, hown.out, hbl.out⟩

theorem flat_take_le (bss : List (List UInt8)) (m : Nat) : (bss.take m).flatten.length ≤ bss.flatten.length := by
  have : bss.flatten = (bss.take m).flatten ++ (bss.drop m).flatten := by rw [← List.flatten_append, List.take_append_drop]
  rw [this, List.length_append]; omega

set_option maxHeartbeats 1000000 in
theorem concat_t (pv : Value) (bss : List (List UInt8)) (w0 : World) (hp : RdS w0 pv bss) (htot : bss.flatten.length ≤ 1048576) :
    Calls Try.prog 28 #[pv] w0 fun e w' => ∃ v, e = .returned v ∧ w'.ownsRow w0.heap.size 5 1 v bss.flatten.length (bss.flatten.map B) ∧ Below w0.heap.size w0 w' := by
  have HP := hid hp
  obtain ⟨a, c, rfl, hc, hm, hcell⟩ := hp
  unfold maxLen at hm
  have H := hid hcell
  clear hcell
  go_enter Try.func28, Try.ntmps28
  go_wp2
  go_loop [3, 11] (fun x k => ∃ m : Nat, k = .int .i64 m ∧ m ≤ bss.length ∧ x = .int .i64 (bss.take m).flatten.length) (fun x k => bss.length - (intOf k).toNat)
  case atStart => exact ⟨0, rfl, by omega, rfl⟩
  case round =>
    obtain ⟨m, rfl, hm, rfl⟩ := hrel
    have hle := flat_take_le bss m
    by_cases hlt : m < bss.length
    · obtain ⟨g, off, s, rfl, hv, b, cb, rfl, hb1, hb2, hb3⟩ := H.out m _ (List.getElem?_eq_getElem hlt)
      unfold maxLen at hb2
      have hle2 := flat_take_le bss (m + 1)
      have HS := hid (take_snoc hlt)
      rw [HS.out, List.flatten_append, List.length_append, List.flatten_cons, List.flatten_nil, List.append_nil] at hle2
      have HL := hid (show (bss.take (m + 1)).flatten.length = (bss.take m).flatten.length + bss[m].length by rw [HS.out, List.flatten_append, List.length_append, List.flatten_cons, List.flatten_nil, List.append_nil])
      generalize bss[m] = bs at *
      generalize hq : (bss.take m).flatten.length = q at *
      have HQ := hid hq
      clear hq hb3
      go_wp2
      exact ⟨⟨m + 1, by go_num, by omega, vi (by rw [HL.out]; simp)⟩, by simp [intOf]; omega⟩
    · obtain rfl : m = bss.length := by omega
      have HT := hid (show (bss.take bss.length).flatten.length = bss.flatten.length by rw [List.take_length])
      rw [HT.out]
      clear hlt hle
      generalize hN : bss.flatten.length = N at *
      have HN := hid hN
      clear hN
      go_wp2_with fail
      refine (grow_t _ (by omega) _).mono ?_
      rintro e w1 ⟨v, rfl, hown, hbl⟩
      have HO := hid hown
      have HB := hid hbl
      clear hown hbl
      go_wp2_with fail
      go_loopw [6, 27] (fun x k wr => ∃ m : Nat, k = .int .i64 m ∧ m ≤ bss.length ∧ wr.ownsRow w0.heap.size 5 1 x (bss.take m).flatten.length ((bss.take m).flatten.map B) ∧ Below w0.heap.size w0 wr) (fun x k _ => bss.length - (intOf k).toNat)
      case atStart => exact ⟨0, rfl, by omega, HO.out, HB.out⟩
      case round =>
        obtain ⟨m, rfl, hm, hown, hbl⟩ := hrel
        have HO2 := hid hown
        have HB2 := hid hbl
        have hle := flat_take_le bss m
        clear hown hbl
        by_cases hlt : m < bss.length
        · obtain ⟨g, off, s, rfl, hv, hrd⟩ := H.out m _ (List.getElem?_eq_getElem hlt)
          have hv' : wr.cell? ⟨g, off + m, none⟩ = some s := (HB2.out.cell (p := ⟨g, off + m, none⟩) (lt_of_cell hv)).trans hv
          have HR := hid (hrd.below HB2.out)
          have hle2 := flat_take_le bss (m + 1)
          have HS := hid (take_snoc hlt)
          rw [HS.out, List.flatten_append, List.length_append, List.flatten_cons, List.flatten_nil, List.append_nil] at hle2
          have HL := hid (show (bss.take (m + 1)).flatten = (bss.take m).flatten ++ bss[m] by rw [HS.out, List.flatten_append, List.flatten_cons, List.flatten_nil, List.append_nil])
          have HN2 := hid (show (bss.take m).flatten.length + bss[m].length ≤ 1048576 by rw [← HN.out] at htot; omega)
          clear hrd hv hle hle2
          generalize bss[m] = bs at *
          generalize hq : (bss.take m).flatten = q at *
          have HQ := hid hq
          clear hq
          go_wp2_with (at_builtin; refine wpl_append_bytes rfl _ _ 22 rfl T22 w0.heap.size _ q rfl HO2.out _ rfl bs HR.out ?c1 HB2.out.size ?c2)
          case c1 => have := HN2.out; omega
          case c2 =>
            intro v' w2 hown' hg'
            have HO3 := hid hown'
            have HB3 := hid (below_grown HB2.out HO2.out hg' HB2.out.size)
            clear hown' hg'
            go_wp2
            exact ⟨⟨m + 1, by go_num, by omega, by rw [HL.out, List.length_append, List.map_append]; exact HO3.out, HB3.out⟩, by simp [intOf]; omega⟩
        · obtain rfl : m = bss.length := by omega
          go_wp2
          go_ret
          have hown := HO2.out
          rw [List.take_length] at hown
          exact ⟨_, rfl, hown, HB2.out⟩

end Go.Proofs.Ytcnfmkhkibfpbaa
