/- The walk of the document's May: kinds 10 to 12. -/
import Derived.Test.YtcnfmkhkibfpbaaMsg
namespace Go.Proofs.Ytcnfmkhkibfpbaa
open Go Go.RowKit
set_option linter.unusedVariables false
set_option maxRecDepth 100000 in
set_option maxHeartbeats 8000000 in
theorem mayR10_t (x m i t : Int) (s : ByteArray) (n g y : Int) (w : World) : Calls Try.prog 20 #[.agg (msgV ⟨10, x, m, i, t, s, n, g, y⟩)] w (MayPost w ⟨10, x, m, i, t, s, n, g, y⟩) := by
  unfold msgV
  dsimp only
  have hasK := hid (has_t 10 (by decide) (by decide))
  go_enter Try.func20, Try.ntmps20
  go_upto_region 3 with fail
  simp only [List.append_eq, List.cons_append, List.nil_append]
  have BX := hid (heap_alloc_new w (.cells #[.int .i64 10, .int .u32 x, .int .u64 m, .int .u32 i, .int .i64 t, .string s, .int .u64 n, .int .u64 g, .int .i64 y] 41))
  have N0 := hid ((Chg.refl (fun _ => False) w).alloc (.cells #[.int .i64 10, .int .u32 x, .int .u64 m, .int .u32 i, .int .i64 t, .string s, .int .u64 n, .int .u64 g, .int .i64 y] 41))
  generalize w.alloc (.cells #[.int .i64 10, .int .u32 x, .int .u64 m, .int .u32 i, .int .i64 t, .string s, .int .u64 n, .int .u64 g, .int .i64 y] 41) = w0 at *
  generalize w.heap.size = b0 at *
  obtain ⟨c0, c1, c2, c3, c4, c5, c6, c7, c8, cf⟩ := cells9 BX.out
  go_wp2_with fail
  refine (hasK.out 120 120 rfl _).mono ?_
  rintro e w1 ⟨he, hn⟩
  rw [show hasB 10 120 = false from rfl] at he
  subst he
  have N1 := hid (N0.out.trans hn (fun _ _ e => e))
  have BX1 := hid ((hn.block b0 (lt_of_block7 BX.out) (fun e => e)).trans BX.out)
  clear hn c0 c1 c2 c3 c4 c5 c6 c7 c8 cf
  obtain ⟨c0, c1, c2, c3, c4, c5, c6, c7, c8, cf⟩ := cells9 BX1.out
  by_cases hzx : x = 0
  · subst hzx
    go_wp2_with fail
    refine (hasK.out 109 109 rfl _).mono ?_
    rintro e w2 ⟨he, hn⟩
    rw [show hasB 10 109 = false from rfl] at he
    subst he
    have N2 := hid (N1.out.trans hn (fun _ _ e => e))
    have BX2 := hid ((hn.block b0 (lt_of_block7 BX1.out) (fun e => e)).trans BX1.out)
    clear hn c0 c1 c2 c3 c4 c5 c6 c7 c8 cf
    obtain ⟨c0, c1, c2, c3, c4, c5, c6, c7, c8, cf⟩ := cells9 BX2.out
    by_cases hzm : m = 0
    · subst hzm
      go_wp2_with fail
      refine (hasK.out 105 105 rfl _).mono ?_
      rintro e w3 ⟨he, hn⟩
      rw [show hasB 10 105 = false from rfl] at he
      subst he
      have N3 := hid (N2.out.trans hn (fun _ _ e => e))
      have BX3 := hid ((hn.block b0 (lt_of_block7 BX2.out) (fun e => e)).trans BX2.out)
      clear hn c0 c1 c2 c3 c4 c5 c6 c7 c8 cf
      obtain ⟨c0, c1, c2, c3, c4, c5, c6, c7, c8, cf⟩ := cells9 BX3.out
      by_cases hzi : i = 0
      · subst hzi
        go_wp2_with fail
        refine (hasK.out 116 116 rfl _).mono ?_
        rintro e w4 ⟨he, hn⟩
        rw [show hasB 10 116 = true from rfl] at he
        subst he
        have N4 := hid (N3.out.trans hn (fun _ _ e => e))
        have BX4 := hid ((hn.block b0 (lt_of_block7 BX3.out) (fun e => e)).trans BX3.out)
        clear hn c0 c1 c2 c3 c4 c5 c6 c7 c8 cf
        obtain ⟨c0, c1, c2, c3, c4, c5, c6, c7, c8, cf⟩ := cells9 BX4.out
        go_wp2_with fail
        refine (hasK.out 110 110 rfl _).mono ?_
        rintro e w5 ⟨he, hn⟩
        rw [show hasB 10 110 = false from rfl] at he
        subst he
        have N5 := hid (N4.out.trans hn (fun _ _ e => e))
        have BX5 := hid ((hn.block b0 (lt_of_block7 BX4.out) (fun e => e)).trans BX4.out)
        clear hn c0 c1 c2 c3 c4 c5 c6 c7 c8 cf
        obtain ⟨c0, c1, c2, c3, c4, c5, c6, c7, c8, cf⟩ := cells9 BX5.out
        by_cases hzn : n = 0
        · subst hzn
          go_wp2_with fail
          refine (hasK.out 103 103 rfl _).mono ?_
          rintro e w6 ⟨he, hn⟩
          rw [show hasB 10 103 = false from rfl] at he
          subst he
          have N6 := hid (N5.out.trans hn (fun _ _ e => e))
          have BX6 := hid ((hn.block b0 (lt_of_block7 BX5.out) (fun e => e)).trans BX5.out)
          clear hn c0 c1 c2 c3 c4 c5 c6 c7 c8 cf
          obtain ⟨c0, c1, c2, c3, c4, c5, c6, c7, c8, cf⟩ := cells9 BX6.out
          by_cases hzg : g = 0
          · subst hzg
            go_wp2_with fail
            refine (hasK.out 119 119 rfl _).mono ?_
            rintro e w7 ⟨he, hn⟩
            rw [show hasB 10 119 = false from rfl] at he
            subst he
            have N7 := hid (N6.out.trans hn (fun _ _ e => e))
            have BX7 := hid ((hn.block b0 (lt_of_block7 BX6.out) (fun e => e)).trans BX6.out)
            clear hn c0 c1 c2 c3 c4 c5 c6 c7 c8 cf
            obtain ⟨c0, c1, c2, c3, c4, c5, c6, c7, c8, cf⟩ := cells9 BX7.out
            by_cases hzy : y = 0
            · subst hzy
              go_wp2_with fail
              refine (hasK.out 117 117 rfl _).mono ?_
              rintro e w8 ⟨he, hn⟩
              rw [show hasB 10 117 = true from rfl] at he
              subst he
              have N8 := hid (N7.out.trans hn (fun _ _ e => e))
              have BX8 := hid ((hn.block b0 (lt_of_block7 BX7.out) (fun e => e)).trans BX7.out)
              clear hn c0 c1 c2 c3 c4 c5 c6 c7 c8 cf
              obtain ⟨c0, c1, c2, c3, c4, c5, c6, c7, c8, cf⟩ := cells9 BX8.out
              go_wp2_with fail
              refine (rname_any s _).mono ?_
              rintro e wz ⟨rfl, rfl⟩
              obtain ⟨nb, hnb⟩ : ∃ nb, nameB s = nb := ⟨_, rfl⟩
              rw [hnb]
              have HNB := hid hnb
              clear hnb
              cases nb
              · go_wp2_with fail
                go_ret
                exact ⟨false, rfl, N8.out, fun h => by cases h⟩
              · skip
                go_wp2_with fail
                refine (hasK.out 117 117 rfl _).mono ?_
                rintro e w9 ⟨he, hn⟩
                rw [show hasB 10 117 = true from rfl] at he
                subst he
                have N9 := hid (N8.out.trans hn (fun _ _ e => e))
                have BX9 := hid ((hn.block b0 (lt_of_block7 BX8.out) (fun e => e)).trans BX8.out)
                clear hn c0 c1 c2 c3 c4 c5 c6 c7 c8 cf
                obtain ⟨c0, c1, c2, c3, c4, c5, c6, c7, c8, cf⟩ := cells9 BX9.out
                by_cases ht0 : 0 ≤ t
                · skip
                  by_cases ht1 : t < 1099511627776
                  · skip
                    go_wp2_with fail
                    go_ret
                    refine ⟨true, rfl, N9.out, fun _ => ?_⟩
                    exact ⟨(by show (1 : Int) ≤ 10; decide), (by show (10 : Int) ≤ 12; decide), fun _ => rfl, fun _ => rfl, fun _ => rfl, fun h => absurd (show hasB 10 116 = false from h) (by decide), fun _ => rfl, fun _ => rfl, fun _ => rfl, fun _ => HNB.out, fun h => absurd (show hasB 10 117 = false from h) (by decide), (by show (0 : Int) < 281474976710656; decide), ht0, ht1, (by show (0 : Int) ≤ 0; decide), (by show (0 : Int) < 256; decide)⟩
                  · have hzb : decide (t < 1099511627776) = false := decide_eq_false ht1
                    go_wp2_with fail
                    go_ret
                    exact ⟨false, rfl, N9.out, fun h => by cases h⟩
                · have hzb : decide (0 ≤ t) = false := decide_eq_false ht0
                  go_wp2_with fail
                  go_ret
                  exact ⟨false, rfl, N9.out, fun h => by cases h⟩
            · have hzb : (y != 0) = true := by simp [hzy]
              go_wp2_with fail
              go_ret
              exact ⟨false, rfl, N7.out, fun h => by cases h⟩
          · have hzb : (g != 0) = true := by simp [hzg]
            go_wp2_with fail
            go_ret
            exact ⟨false, rfl, N6.out, fun h => by cases h⟩
        · have hzb : (n != 0) = true := by simp [hzn]
          go_wp2_with fail
          go_ret
          exact ⟨false, rfl, N5.out, fun h => by cases h⟩
      · have hzb : (i != 0) = true := by simp [hzi]
        go_wp2_with fail
        go_ret
        exact ⟨false, rfl, N3.out, fun h => by cases h⟩
    · have hzb : (m != 0) = true := by simp [hzm]
      go_wp2_with fail
      go_ret
      exact ⟨false, rfl, N2.out, fun h => by cases h⟩
  · have hzb : (x != 0) = true := by simp [hzx]
    go_wp2_with fail
    go_ret
    exact ⟨false, rfl, N1.out, fun h => by cases h⟩
set_option maxRecDepth 100000 in
set_option maxHeartbeats 8000000 in
theorem mayR11_t (x m i t : Int) (s : ByteArray) (n g y : Int) (w : World) : Calls Try.prog 20 #[.agg (msgV ⟨11, x, m, i, t, s, n, g, y⟩)] w (MayPost w ⟨11, x, m, i, t, s, n, g, y⟩) := by
  unfold msgV
  dsimp only
  have hasK := hid (has_t 11 (by decide) (by decide))
  go_enter Try.func20, Try.ntmps20
  go_upto_region 3 with fail
  simp only [List.append_eq, List.cons_append, List.nil_append]
  have BX := hid (heap_alloc_new w (.cells #[.int .i64 11, .int .u32 x, .int .u64 m, .int .u32 i, .int .i64 t, .string s, .int .u64 n, .int .u64 g, .int .i64 y] 41))
  have N0 := hid ((Chg.refl (fun _ => False) w).alloc (.cells #[.int .i64 11, .int .u32 x, .int .u64 m, .int .u32 i, .int .i64 t, .string s, .int .u64 n, .int .u64 g, .int .i64 y] 41))
  generalize w.alloc (.cells #[.int .i64 11, .int .u32 x, .int .u64 m, .int .u32 i, .int .i64 t, .string s, .int .u64 n, .int .u64 g, .int .i64 y] 41) = w0 at *
  generalize w.heap.size = b0 at *
  obtain ⟨c0, c1, c2, c3, c4, c5, c6, c7, c8, cf⟩ := cells9 BX.out
  go_wp2_with fail
  refine (hasK.out 120 120 rfl _).mono ?_
  rintro e w1 ⟨he, hn⟩
  rw [show hasB 11 120 = false from rfl] at he
  subst he
  have N1 := hid (N0.out.trans hn (fun _ _ e => e))
  have BX1 := hid ((hn.block b0 (lt_of_block7 BX.out) (fun e => e)).trans BX.out)
  clear hn c0 c1 c2 c3 c4 c5 c6 c7 c8 cf
  obtain ⟨c0, c1, c2, c3, c4, c5, c6, c7, c8, cf⟩ := cells9 BX1.out
  by_cases hzx : x = 0
  · subst hzx
    go_wp2_with fail
    refine (hasK.out 109 109 rfl _).mono ?_
    rintro e w2 ⟨he, hn⟩
    rw [show hasB 11 109 = false from rfl] at he
    subst he
    have N2 := hid (N1.out.trans hn (fun _ _ e => e))
    have BX2 := hid ((hn.block b0 (lt_of_block7 BX1.out) (fun e => e)).trans BX1.out)
    clear hn c0 c1 c2 c3 c4 c5 c6 c7 c8 cf
    obtain ⟨c0, c1, c2, c3, c4, c5, c6, c7, c8, cf⟩ := cells9 BX2.out
    by_cases hzm : m = 0
    · subst hzm
      go_wp2_with fail
      refine (hasK.out 105 105 rfl _).mono ?_
      rintro e w3 ⟨he, hn⟩
      rw [show hasB 11 105 = false from rfl] at he
      subst he
      have N3 := hid (N2.out.trans hn (fun _ _ e => e))
      have BX3 := hid ((hn.block b0 (lt_of_block7 BX2.out) (fun e => e)).trans BX2.out)
      clear hn c0 c1 c2 c3 c4 c5 c6 c7 c8 cf
      obtain ⟨c0, c1, c2, c3, c4, c5, c6, c7, c8, cf⟩ := cells9 BX3.out
      by_cases hzi : i = 0
      · subst hzi
        go_wp2_with fail
        refine (hasK.out 116 116 rfl _).mono ?_
        rintro e w4 ⟨he, hn⟩
        rw [show hasB 11 116 = false from rfl] at he
        subst he
        have N4 := hid (N3.out.trans hn (fun _ _ e => e))
        have BX4 := hid ((hn.block b0 (lt_of_block7 BX3.out) (fun e => e)).trans BX3.out)
        clear hn c0 c1 c2 c3 c4 c5 c6 c7 c8 cf
        obtain ⟨c0, c1, c2, c3, c4, c5, c6, c7, c8, cf⟩ := cells9 BX4.out
        by_cases hzt : t = 0
        · subst hzt
          go_wp2_with fail
          refine (hasK.out 110 110 rfl _).mono ?_
          rintro e w5 ⟨he, hn⟩
          rw [show hasB 11 110 = false from rfl] at he
          subst he
          have N5 := hid (N4.out.trans hn (fun _ _ e => e))
          have BX5 := hid ((hn.block b0 (lt_of_block7 BX4.out) (fun e => e)).trans BX4.out)
          clear hn c0 c1 c2 c3 c4 c5 c6 c7 c8 cf
          obtain ⟨c0, c1, c2, c3, c4, c5, c6, c7, c8, cf⟩ := cells9 BX5.out
          by_cases hzn : n = 0
          · subst hzn
            go_wp2_with fail
            refine (hasK.out 103 103 rfl _).mono ?_
            rintro e w6 ⟨he, hn⟩
            rw [show hasB 11 103 = false from rfl] at he
            subst he
            have N6 := hid (N5.out.trans hn (fun _ _ e => e))
            have BX6 := hid ((hn.block b0 (lt_of_block7 BX5.out) (fun e => e)).trans BX5.out)
            clear hn c0 c1 c2 c3 c4 c5 c6 c7 c8 cf
            obtain ⟨c0, c1, c2, c3, c4, c5, c6, c7, c8, cf⟩ := cells9 BX6.out
            by_cases hzg : g = 0
            · subst hzg
              go_wp2_with fail
              refine (hasK.out 119 119 rfl _).mono ?_
              rintro e w7 ⟨he, hn⟩
              rw [show hasB 11 119 = true from rfl] at he
              subst he
              have N7 := hid (N6.out.trans hn (fun _ _ e => e))
              have BX7 := hid ((hn.block b0 (lt_of_block7 BX6.out) (fun e => e)).trans BX6.out)
              clear hn c0 c1 c2 c3 c4 c5 c6 c7 c8 cf
              obtain ⟨c0, c1, c2, c3, c4, c5, c6, c7, c8, cf⟩ := cells9 BX7.out
              go_wp2_with fail
              refine (hasK.out 117 117 rfl _).mono ?_
              rintro e w8 ⟨he, hn⟩
              rw [show hasB 11 117 = true from rfl] at he
              subst he
              have N8 := hid (N7.out.trans hn (fun _ _ e => e))
              have BX8 := hid ((hn.block b0 (lt_of_block7 BX7.out) (fun e => e)).trans BX7.out)
              clear hn c0 c1 c2 c3 c4 c5 c6 c7 c8 cf
              obtain ⟨c0, c1, c2, c3, c4, c5, c6, c7, c8, cf⟩ := cells9 BX8.out
              go_wp2_with fail
              refine (rname_any s _).mono ?_
              rintro e wz ⟨rfl, rfl⟩
              obtain ⟨nb, hnb⟩ : ∃ nb, nameB s = nb := ⟨_, rfl⟩
              rw [hnb]
              have HNB := hid hnb
              clear hnb
              cases nb
              · go_wp2_with fail
                go_ret
                exact ⟨false, rfl, N8.out, fun h => by cases h⟩
              · skip
                go_wp2_with fail
                refine (hasK.out 117 117 rfl _).mono ?_
                rintro e w9 ⟨he, hn⟩
                rw [show hasB 11 117 = true from rfl] at he
                subst he
                have N9 := hid (N8.out.trans hn (fun _ _ e => e))
                have BX9 := hid ((hn.block b0 (lt_of_block7 BX8.out) (fun e => e)).trans BX8.out)
                clear hn c0 c1 c2 c3 c4 c5 c6 c7 c8 cf
                obtain ⟨c0, c1, c2, c3, c4, c5, c6, c7, c8, cf⟩ := cells9 BX9.out
                by_cases hy0 : 0 ≤ y
                · skip
                  by_cases hy1 : y < 256
                  · skip
                    go_wp2_with fail
                    go_ret
                    refine ⟨true, rfl, N9.out, fun _ => ?_⟩
                    exact ⟨(by show (1 : Int) ≤ 11; decide), (by show (11 : Int) ≤ 12; decide), fun _ => rfl, fun _ => rfl, fun _ => rfl, fun _ => rfl, fun _ => rfl, fun _ => rfl, fun h => absurd (show hasB 11 119 = false from h) (by decide), fun _ => HNB.out, fun h => absurd (show hasB 11 117 = false from h) (by decide), (by show (0 : Int) < 281474976710656; decide), (by show (0 : Int) ≤ 0; decide), (by show (0 : Int) < 1099511627776; decide), hy0, hy1⟩
                  · have hzb : decide (y < 256) = false := decide_eq_false hy1
                    go_wp2_with fail
                    go_ret
                    exact ⟨false, rfl, N9.out, fun h => by cases h⟩
                · have hzb : decide (0 ≤ y) = false := decide_eq_false hy0
                  go_wp2_with fail
                  go_ret
                  exact ⟨false, rfl, N9.out, fun h => by cases h⟩
            · have hzb : (g != 0) = true := by simp [hzg]
              go_wp2_with fail
              go_ret
              exact ⟨false, rfl, N6.out, fun h => by cases h⟩
          · have hzb : (n != 0) = true := by simp [hzn]
            go_wp2_with fail
            go_ret
            exact ⟨false, rfl, N5.out, fun h => by cases h⟩
        · have hzb : (t != 0) = true := by simp [hzt]
          go_wp2_with fail
          go_ret
          exact ⟨false, rfl, N4.out, fun h => by cases h⟩
      · have hzb : (i != 0) = true := by simp [hzi]
        go_wp2_with fail
        go_ret
        exact ⟨false, rfl, N3.out, fun h => by cases h⟩
    · have hzb : (m != 0) = true := by simp [hzm]
      go_wp2_with fail
      go_ret
      exact ⟨false, rfl, N2.out, fun h => by cases h⟩
  · have hzb : (x != 0) = true := by simp [hzx]
    go_wp2_with fail
    go_ret
    exact ⟨false, rfl, N1.out, fun h => by cases h⟩
set_option maxRecDepth 100000 in
set_option maxHeartbeats 8000000 in
theorem mayR12_t (x m i t : Int) (s : ByteArray) (n g y : Int) (w : World) : Calls Try.prog 20 #[.agg (msgV ⟨12, x, m, i, t, s, n, g, y⟩)] w (MayPost w ⟨12, x, m, i, t, s, n, g, y⟩) := by
  unfold msgV
  dsimp only
  have hasK := hid (has_t 12 (by decide) (by decide))
  go_enter Try.func20, Try.ntmps20
  go_upto_region 3 with fail
  simp only [List.append_eq, List.cons_append, List.nil_append]
  have BX := hid (heap_alloc_new w (.cells #[.int .i64 12, .int .u32 x, .int .u64 m, .int .u32 i, .int .i64 t, .string s, .int .u64 n, .int .u64 g, .int .i64 y] 41))
  have N0 := hid ((Chg.refl (fun _ => False) w).alloc (.cells #[.int .i64 12, .int .u32 x, .int .u64 m, .int .u32 i, .int .i64 t, .string s, .int .u64 n, .int .u64 g, .int .i64 y] 41))
  generalize w.alloc (.cells #[.int .i64 12, .int .u32 x, .int .u64 m, .int .u32 i, .int .i64 t, .string s, .int .u64 n, .int .u64 g, .int .i64 y] 41) = w0 at *
  generalize w.heap.size = b0 at *
  obtain ⟨c0, c1, c2, c3, c4, c5, c6, c7, c8, cf⟩ := cells9 BX.out
  go_wp2_with fail
  refine (hasK.out 120 120 rfl _).mono ?_
  rintro e w1 ⟨he, hn⟩
  rw [show hasB 12 120 = false from rfl] at he
  subst he
  have N1 := hid (N0.out.trans hn (fun _ _ e => e))
  have BX1 := hid ((hn.block b0 (lt_of_block7 BX.out) (fun e => e)).trans BX.out)
  clear hn c0 c1 c2 c3 c4 c5 c6 c7 c8 cf
  obtain ⟨c0, c1, c2, c3, c4, c5, c6, c7, c8, cf⟩ := cells9 BX1.out
  by_cases hzx : x = 0
  · subst hzx
    go_wp2_with fail
    refine (hasK.out 109 109 rfl _).mono ?_
    rintro e w2 ⟨he, hn⟩
    rw [show hasB 12 109 = false from rfl] at he
    subst he
    have N2 := hid (N1.out.trans hn (fun _ _ e => e))
    have BX2 := hid ((hn.block b0 (lt_of_block7 BX1.out) (fun e => e)).trans BX1.out)
    clear hn c0 c1 c2 c3 c4 c5 c6 c7 c8 cf
    obtain ⟨c0, c1, c2, c3, c4, c5, c6, c7, c8, cf⟩ := cells9 BX2.out
    by_cases hzm : m = 0
    · subst hzm
      go_wp2_with fail
      refine (hasK.out 105 105 rfl _).mono ?_
      rintro e w3 ⟨he, hn⟩
      rw [show hasB 12 105 = false from rfl] at he
      subst he
      have N3 := hid (N2.out.trans hn (fun _ _ e => e))
      have BX3 := hid ((hn.block b0 (lt_of_block7 BX2.out) (fun e => e)).trans BX2.out)
      clear hn c0 c1 c2 c3 c4 c5 c6 c7 c8 cf
      obtain ⟨c0, c1, c2, c3, c4, c5, c6, c7, c8, cf⟩ := cells9 BX3.out
      by_cases hzi : i = 0
      · subst hzi
        go_wp2_with fail
        refine (hasK.out 116 116 rfl _).mono ?_
        rintro e w4 ⟨he, hn⟩
        rw [show hasB 12 116 = false from rfl] at he
        subst he
        have N4 := hid (N3.out.trans hn (fun _ _ e => e))
        have BX4 := hid ((hn.block b0 (lt_of_block7 BX3.out) (fun e => e)).trans BX3.out)
        clear hn c0 c1 c2 c3 c4 c5 c6 c7 c8 cf
        obtain ⟨c0, c1, c2, c3, c4, c5, c6, c7, c8, cf⟩ := cells9 BX4.out
        by_cases hzt : t = 0
        · subst hzt
          go_wp2_with fail
          refine (hasK.out 110 110 rfl _).mono ?_
          rintro e w5 ⟨he, hn⟩
          rw [show hasB 12 110 = true from rfl] at he
          subst he
          have N5 := hid (N4.out.trans hn (fun _ _ e => e))
          have BX5 := hid ((hn.block b0 (lt_of_block7 BX4.out) (fun e => e)).trans BX4.out)
          clear hn c0 c1 c2 c3 c4 c5 c6 c7 c8 cf
          obtain ⟨c0, c1, c2, c3, c4, c5, c6, c7, c8, cf⟩ := cells9 BX5.out
          go_wp2_with fail
          refine (hasK.out 103 103 rfl _).mono ?_
          rintro e w6 ⟨he, hn⟩
          rw [show hasB 12 103 = true from rfl] at he
          subst he
          have N6 := hid (N5.out.trans hn (fun _ _ e => e))
          have BX6 := hid ((hn.block b0 (lt_of_block7 BX5.out) (fun e => e)).trans BX5.out)
          clear hn c0 c1 c2 c3 c4 c5 c6 c7 c8 cf
          obtain ⟨c0, c1, c2, c3, c4, c5, c6, c7, c8, cf⟩ := cells9 BX6.out
          go_wp2_with fail
          refine (hasK.out 119 119 rfl _).mono ?_
          rintro e w7 ⟨he, hn⟩
          rw [show hasB 12 119 = false from rfl] at he
          subst he
          have N7 := hid (N6.out.trans hn (fun _ _ e => e))
          have BX7 := hid ((hn.block b0 (lt_of_block7 BX6.out) (fun e => e)).trans BX6.out)
          clear hn c0 c1 c2 c3 c4 c5 c6 c7 c8 cf
          obtain ⟨c0, c1, c2, c3, c4, c5, c6, c7, c8, cf⟩ := cells9 BX7.out
          by_cases hzy : y = 0
          · subst hzy
            go_wp2_with fail
            refine (hasK.out 117 117 rfl _).mono ?_
            rintro e w8 ⟨he, hn⟩
            rw [show hasB 12 117 = true from rfl] at he
            subst he
            have N8 := hid (N7.out.trans hn (fun _ _ e => e))
            have BX8 := hid ((hn.block b0 (lt_of_block7 BX7.out) (fun e => e)).trans BX7.out)
            clear hn c0 c1 c2 c3 c4 c5 c6 c7 c8 cf
            obtain ⟨c0, c1, c2, c3, c4, c5, c6, c7, c8, cf⟩ := cells9 BX8.out
            go_wp2_with fail
            refine (rname_any s _).mono ?_
            rintro e wz ⟨rfl, rfl⟩
            obtain ⟨nb, hnb⟩ : ∃ nb, nameB s = nb := ⟨_, rfl⟩
            rw [hnb]
            have HNB := hid hnb
            clear hnb
            cases nb
            · go_wp2_with fail
              go_ret
              exact ⟨false, rfl, N8.out, fun h => by cases h⟩
            · skip
              go_wp2_with fail
              refine (hasK.out 117 117 rfl _).mono ?_
              rintro e w9 ⟨he, hn⟩
              rw [show hasB 12 117 = true from rfl] at he
              subst he
              have N9 := hid (N8.out.trans hn (fun _ _ e => e))
              have BX9 := hid ((hn.block b0 (lt_of_block7 BX8.out) (fun e => e)).trans BX8.out)
              clear hn c0 c1 c2 c3 c4 c5 c6 c7 c8 cf
              obtain ⟨c0, c1, c2, c3, c4, c5, c6, c7, c8, cf⟩ := cells9 BX9.out
              go_wp2_with fail
              go_ret
              refine ⟨true, rfl, N9.out, fun _ => ?_⟩
              exact ⟨(by show (1 : Int) ≤ 12; decide), (by show (12 : Int) ≤ 12; decide), fun _ => rfl, fun _ => rfl, fun _ => rfl, fun _ => rfl, fun h => absurd (show hasB 12 110 = false from h) (by decide), fun h => absurd (show hasB 12 103 = false from h) (by decide), fun _ => rfl, fun _ => HNB.out, fun h => absurd (show hasB 12 117 = false from h) (by decide), (by show (0 : Int) < 281474976710656; decide), (by show (0 : Int) ≤ 0; decide), (by show (0 : Int) < 1099511627776; decide), (by show (0 : Int) ≤ 0; decide), (by show (0 : Int) < 256; decide)⟩
          · have hzb : (y != 0) = true := by simp [hzy]
            go_wp2_with fail
            go_ret
            exact ⟨false, rfl, N7.out, fun h => by cases h⟩
        · have hzb : (t != 0) = true := by simp [hzt]
          go_wp2_with fail
          go_ret
          exact ⟨false, rfl, N4.out, fun h => by cases h⟩
      · have hzb : (i != 0) = true := by simp [hzi]
        go_wp2_with fail
        go_ret
        exact ⟨false, rfl, N3.out, fun h => by cases h⟩
    · have hzb : (m != 0) = true := by simp [hzm]
      go_wp2_with fail
      go_ret
      exact ⟨false, rfl, N2.out, fun h => by cases h⟩
  · have hzb : (x != 0) = true := by simp [hzx]
    go_wp2_with fail
    go_ret
    exact ⟨false, rfl, N1.out, fun h => by cases h⟩
end Go.Proofs.Ytcnfmkhkibfpbaa
