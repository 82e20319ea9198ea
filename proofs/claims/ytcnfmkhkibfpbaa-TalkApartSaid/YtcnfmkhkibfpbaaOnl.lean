/- The walk of only: a message with its kind's fields alone stays as it is. -/
import Derived.Test.YtcnfmkhkibfpbaaOur
namespace Go.Proofs.Ytcnfmkhkibfpbaa
open Go Go.RowKit
set_option linter.unusedVariables false
/-- In the midst of only: the message, the result, the flags, the message that grows. -/
structure GI (w wx : World) (k0 k3 k4 : Nat) (M F G : Array Value) : Prop where
  m : wx.heap[k0]? = some (.cells M 49 (0, 0))
  r : wx.heap[k0 + 1]? = some (.cells #[.int .i64 0, .int .u32 0, .int .u64 0, .int .u32 0, .int .i64 0, .string ⟨#[]⟩, .int .u64 0, .int .u64 0, .int .i64 0] 49 (0, 0))
  f : wx.heap[k3]? = some (.cells F 69 (0, 0))
  g : wx.heap[k4]? = some (.cells G 49 (0, 0))
  new : New w wx
  lo : w.heap.size ≤ k4
  lo1 : w.heap.size ≤ k0 + 1
  d0 : k0 ≠ k4
  d1 : k0 + 1 ≠ k4
  d3 : k3 ≠ k4
theorem GI.set {w wx : World} {k0 k3 k4 : Nat} {M F G : Array Value} (h : GI w wx k0 k3 k4 M F G) (j : Nat) (u : Value) : GI w (wx.setCell ⟨k4, j, none⟩ u) k0 k3 k4 M F (G.setIfInBounds j u) :=
  ⟨(heap_setCell_other _ _ _ _ h.d0).trans h.m, (heap_setCell_other _ _ _ _ h.d1).trans h.r, (heap_setCell_other _ _ _ _ h.d3).trans h.f, heap_setCell_same wx k4 j _ 49 u h.g, h.new.setCell (p := ⟨k4, j, none⟩) (fun e => absurd e (Nat.not_lt.2 h.lo)) u, h.lo, h.lo1, h.d0, h.d1, h.d3⟩
theorem cells8' {w : World} {g : Nat} {t : TypeId} {x0 x1 x2 x3 x4 x5 x6 x7 : Value} (hg : w.heap[g]? = some (.cells #[x0, x1, x2, x3, x4, x5, x6, x7] t (0, 0))) :
    w.cell? ⟨g, 0, none⟩ = some x0 ∧ w.cell? ⟨g, 1, none⟩ = some x1 ∧ w.cell? ⟨g, 2, none⟩ = some x2 ∧ w.cell? ⟨g, 3, none⟩ = some x3 ∧ w.cell? ⟨g, 4, none⟩ = some x4 ∧ w.cell? ⟨g, 5, none⟩ = some x5 ∧
    w.cell? ⟨g, 6, none⟩ = some x6 ∧ w.cell? ⟨g, 7, none⟩ = some x7 ∧ ∀ i, w.frozen? ⟨g, i, none⟩ = false :=
  ⟨by rw [cell_of_row w g 0 _ t _ hg]; rfl, by rw [cell_of_row w g 1 _ t _ hg]; rfl, by rw [cell_of_row w g 2 _ t _ hg]; rfl, by rw [cell_of_row w g 3 _ t _ hg]; rfl, by rw [cell_of_row w g 4 _ t _ hg]; rfl,
    by rw [cell_of_row w g 5 _ t _ hg]; rfl, by rw [cell_of_row w g 6 _ t _ hg]; rfl, by rw [cell_of_row w g 7 _ t _ hg]; rfl, fun i => frozen_of_row w g i _ t hg⟩
set_option maxRecDepth 100000 in
set_option maxHeartbeats 16000000 in
theorem only_t (k x mc i t : Int) (s : ByteArray) (n g y : Int) (h1 : 1 ≤ k) (h12 : k ≤ 12) (hx : hasB k 120 = false → x = 0) (hm : hasB k 109 = false → mc = 0) (hi : hasB k 105 = false → i = 0) (ht : hasB k 116 = false → t = 0) (hu : hasB k 117 = false → s = ⟨#[]⟩) (hn : hasB k 110 = false → n = 0) (hg : hasB k 103 = false → g = 0) (hw : hasB k 119 = false → y = 0) (w : World) :
    Calls Try.prog 46 #[.agg #[.int .i64 k, .int .u32 x, .int .u64 mc, .int .u32 i, .int .i64 t, .string s, .int .u64 n, .int .u64 g, .int .i64 y]] w fun e w' => e = .returned (.agg #[.int .i64 k, .int .u32 x, .int .u64 mc, .int .u32 i, .int .i64 t, .string s, .int .u64 n, .int .u64 g, .int .i64 y]) ∧ New w w' := by
  have F := fun w => fields_t k h1 h12 w
  unfold flagsV at F
  have HX := hid hx
  have HM := hid hm
  have HI := hid hi
  have HT := hid ht
  have HU := hid hu
  have HN := hid hn
  have HG := hid hg
  have HW := hid hw
  clear hx hm hi ht hu hn hg hw h1 h12
  generalize hasB k 120 = bx at *
  generalize hasB k 109 = bm at *
  generalize hasB k 105 = bi at *
  generalize hasB k 116 = bt at *
  generalize hasB k 117 = bu at *
  generalize hasB k 110 = bn at *
  generalize hasB k 103 = bg at *
  generalize hasB k 119 = bw at *
  replace F := hid F
  go_enter Try.func46, Try.ntmps46
  go_wp2_with fail
  refine (F.out _).mono ?_
  rintro e w1 ⟨rfl, hc⟩
  have N1 := hid (((Chg.refl (fun _ => False) w).alloc _).alloc _ |>.trans hc (fun _ _ e => e))
  obtain ⟨e1, e2, s1, s2⟩ := two_kept hc
  obtain ⟨c0, c1, c2, c3, c4, c5, c6, c7, c8, cf⟩ := cells9 e1
  have E1 := hid e1
  have E2 := hid e2
  have S1 := hid s1
  have S2 := hid s2
  have ca : ∀ o, (w1.alloc o).cell? ⟨w.heap.size, 0, none⟩ = some (.int .i64 k) := fun o => acell7 c0 o
  have GI0 := hid (show GI w ((w1.alloc (.cells #[.bool bx, .bool bm, .bool bi, .bool bt, .bool bu, .bool bn, .bool bg, .bool bw] 69)).alloc (.cells #[.int .i64 k, .int .u32 0, .int .u64 0, .int .u32 0, .int .i64 0, .string ⟨#[]⟩, .int .u64 0, .int .u64 0, .int .i64 0] 49)) w.heap.size w1.heap.size (w1.heap.size + 1) #[.int .i64 k, .int .u32 x, .int .u64 mc, .int .u32 i, .int .i64 t, .string s, .int .u64 n, .int .u64 g, .int .i64 y] #[.bool bx, .bool bm, .bool bi, .bool bt, .bool bu, .bool bn, .bool bg, .bool bw] #[.int .i64 k, .int .u32 0, .int .u64 0, .int .u32 0, .int .i64 0, .string ⟨#[]⟩, .int .u64 0, .int .u64 0, .int .i64 0] from by
    refine ⟨?_, ?_, ?_, ?_, (N1.out.alloc _).alloc _, ?_, ?_, ?_, ?_, ?_⟩
    · exact (Below.heap_alloc _ _ _ (by simp; omega)).trans ((Below.heap_alloc _ _ _ s1).trans e1)
    · exact (Below.heap_alloc _ _ _ (by simp; omega)).trans ((Below.heap_alloc _ _ _ s2).trans e2)
    · exact (Below.heap_alloc _ _ _ (by simp)).trans (heap_alloc_new w1 _)
    · have := heap_alloc_new (w1.alloc (.cells #[.bool bx, .bool bm, .bool bi, .bool bt, .bool bu, .bool bn, .bool bg, .bool bw] 69)) (.cells #[.int .i64 k, .int .u32 0, .int .u64 0, .int .u32 0, .int .i64 0, .string ⟨#[]⟩, .int .u64 0, .int .u64 0, .int .i64 0] 49)
      simpa only [World.size_alloc] using this
    · omega
    · omega
    · omega
    · omega
    · omega)
  have HSZ := hid (show w.heap.size + 1 < w1.heap.size from s2)
  clear hc e1 e2 s1 s2
  go_upto_region 3 with fail
  generalize (w1.alloc (.cells #[.bool bx, .bool bm, .bool bi, .bool bt, .bool bu, .bool bn, .bool bg, .bool bw] 69)).alloc (.cells #[.int .i64 k, .int .u32 0, .int .u64 0, .int .u32 0, .int .i64 0, .string ⟨#[]⟩, .int .u64 0, .int .u64 0, .int .i64 0] 49) = w2 at *
  generalize hk3 : w1.heap.size = k3 at *
  generalize hk4 : k3 + 1 = k4 at *
  generalize hk0 : w.heap.size = k0 at *
  clear hk3 hk4 hk0 c0 c1 c2 c3 c4 c5 c6 c7 c8 cf ca E1 E2 S1 S2 N1 HSZ
  have hgi := GI0.out
  obtain ⟨wc, hwc⟩ : ∃ wc : World, wc = w2 := ⟨_, rfl⟩
  subst hwc
  have G0 := hid hgi
  obtain ⟨c0, c1, c2, c3, c4, c5, c6, c7, c8, cf⟩ := cells9 hgi.m
  obtain ⟨d0, d1, d2, d3, d4, d5, d6, d7, df⟩ := cells8' hgi.f
  obtain ⟨g0, g1, g2, g3, g4, g5, g6, g7, g8, gf⟩ := cells9 hgi.g
  clear hgi
  go_upto_if 12 with fail
  go_cut [13] from 13 to 15 (fun s13 wx => GI w wx k0 k3 k4 #[.int .i64 k, .int .u32 x, .int .u64 mc, .int .u32 i, .int .i64 t, .string s, .int .u64 n, .int .u64 g, .int .i64 y] #[.bool bx, .bool bm, .bool bi, .bool bt, .bool bu, .bool bn, .bool bg, .bool bw] #[.int .i64 k, .int .u32 x, .int .u64 0, .int .u32 0, .int .i64 0, .string ⟨#[]⟩, .int .u64 0, .int .u64 0, .int .i64 0])
  case first =>
    cases bx
    · obtain rfl : x = 0 := HX.out rfl
      go_wp2_with fail
      go_meet
      exact G0.out
    · go_wp2_with fail
      go_meet
      exact G0.out.set 1 _
  case rest =>
    clear c0 c1 c2 c3 c4 c5 c6 c7 c8 cf d0 d1 d2 d3 d4 d5 d6 d7 df g0 g1 g2 g3 g4 g5 g6 g7 g8 gf
    have hgi := hcut
    have G1 := hid hgi
    obtain ⟨c0, c1, c2, c3, c4, c5, c6, c7, c8, cf⟩ := cells9 hgi.m
    obtain ⟨d0, d1, d2, d3, d4, d5, d6, d7, df⟩ := cells8' hgi.f
    obtain ⟨g0, g1, g2, g3, g4, g5, g6, g7, g8, gf⟩ := cells9 hgi.g
    clear hcut
    clear hgi
    go_upto_if 17 with fail
    go_cut [18] from 18 to 20 (fun s18 wx => GI w wx k0 k3 k4 #[.int .i64 k, .int .u32 x, .int .u64 mc, .int .u32 i, .int .i64 t, .string s, .int .u64 n, .int .u64 g, .int .i64 y] #[.bool bx, .bool bm, .bool bi, .bool bt, .bool bu, .bool bn, .bool bg, .bool bw] #[.int .i64 k, .int .u32 x, .int .u64 mc, .int .u32 0, .int .i64 0, .string ⟨#[]⟩, .int .u64 0, .int .u64 0, .int .i64 0])
    case first =>
      cases bm
      · obtain rfl : mc = 0 := HM.out rfl
        go_wp2_with fail
        go_meet
        exact G1.out
      · go_wp2_with fail
        go_meet
        exact G1.out.set 2 _
    case rest =>
      clear c0 c1 c2 c3 c4 c5 c6 c7 c8 cf d0 d1 d2 d3 d4 d5 d6 d7 df g0 g1 g2 g3 g4 g5 g6 g7 g8 gf
      have hgi := hcut
      have G2 := hid hgi
      obtain ⟨c0, c1, c2, c3, c4, c5, c6, c7, c8, cf⟩ := cells9 hgi.m
      obtain ⟨d0, d1, d2, d3, d4, d5, d6, d7, df⟩ := cells8' hgi.f
      obtain ⟨g0, g1, g2, g3, g4, g5, g6, g7, g8, gf⟩ := cells9 hgi.g
      clear hcut
      clear hgi
      go_upto_if 22 with fail
      go_cut [23] from 23 to 25 (fun s23 wx => GI w wx k0 k3 k4 #[.int .i64 k, .int .u32 x, .int .u64 mc, .int .u32 i, .int .i64 t, .string s, .int .u64 n, .int .u64 g, .int .i64 y] #[.bool bx, .bool bm, .bool bi, .bool bt, .bool bu, .bool bn, .bool bg, .bool bw] #[.int .i64 k, .int .u32 x, .int .u64 mc, .int .u32 i, .int .i64 0, .string ⟨#[]⟩, .int .u64 0, .int .u64 0, .int .i64 0])
      case first =>
        cases bi
        · obtain rfl : i = 0 := HI.out rfl
          go_wp2_with fail
          go_meet
          exact G2.out
        · go_wp2_with fail
          go_meet
          exact G2.out.set 3 _
      case rest =>
        clear c0 c1 c2 c3 c4 c5 c6 c7 c8 cf d0 d1 d2 d3 d4 d5 d6 d7 df g0 g1 g2 g3 g4 g5 g6 g7 g8 gf
        have hgi := hcut
        have G3 := hid hgi
        obtain ⟨c0, c1, c2, c3, c4, c5, c6, c7, c8, cf⟩ := cells9 hgi.m
        obtain ⟨d0, d1, d2, d3, d4, d5, d6, d7, df⟩ := cells8' hgi.f
        obtain ⟨g0, g1, g2, g3, g4, g5, g6, g7, g8, gf⟩ := cells9 hgi.g
        clear hcut
        clear hgi
        go_upto_if 27 with fail
        go_cut [28] from 28 to 30 (fun s28 wx => GI w wx k0 k3 k4 #[.int .i64 k, .int .u32 x, .int .u64 mc, .int .u32 i, .int .i64 t, .string s, .int .u64 n, .int .u64 g, .int .i64 y] #[.bool bx, .bool bm, .bool bi, .bool bt, .bool bu, .bool bn, .bool bg, .bool bw] #[.int .i64 k, .int .u32 x, .int .u64 mc, .int .u32 i, .int .i64 t, .string ⟨#[]⟩, .int .u64 0, .int .u64 0, .int .i64 0])
        case first =>
          cases bt
          · obtain rfl : t = 0 := HT.out rfl
            go_wp2_with fail
            go_meet
            exact G3.out
          · go_wp2_with fail
            go_meet
            exact G3.out.set 4 _
        case rest =>
          clear c0 c1 c2 c3 c4 c5 c6 c7 c8 cf d0 d1 d2 d3 d4 d5 d6 d7 df g0 g1 g2 g3 g4 g5 g6 g7 g8 gf
          have hgi := hcut
          have G4 := hid hgi
          obtain ⟨c0, c1, c2, c3, c4, c5, c6, c7, c8, cf⟩ := cells9 hgi.m
          obtain ⟨d0, d1, d2, d3, d4, d5, d6, d7, df⟩ := cells8' hgi.f
          obtain ⟨g0, g1, g2, g3, g4, g5, g6, g7, g8, gf⟩ := cells9 hgi.g
          clear hcut
          clear hgi
          go_upto_if 32 with fail
          go_cut [33] from 33 to 35 (fun s33 wx => GI w wx k0 k3 k4 #[.int .i64 k, .int .u32 x, .int .u64 mc, .int .u32 i, .int .i64 t, .string s, .int .u64 n, .int .u64 g, .int .i64 y] #[.bool bx, .bool bm, .bool bi, .bool bt, .bool bu, .bool bn, .bool bg, .bool bw] #[.int .i64 k, .int .u32 x, .int .u64 mc, .int .u32 i, .int .i64 t, .string s, .int .u64 0, .int .u64 0, .int .i64 0])
          case first =>
            cases bu
            · obtain rfl : s = ⟨#[]⟩ := HU.out rfl
              go_wp2_with fail
              go_meet
              exact G4.out
            · go_wp2_with fail
              go_meet
              exact G4.out.set 5 _
          case rest =>
            clear c0 c1 c2 c3 c4 c5 c6 c7 c8 cf d0 d1 d2 d3 d4 d5 d6 d7 df g0 g1 g2 g3 g4 g5 g6 g7 g8 gf
            have hgi := hcut
            have G5 := hid hgi
            obtain ⟨c0, c1, c2, c3, c4, c5, c6, c7, c8, cf⟩ := cells9 hgi.m
            obtain ⟨d0, d1, d2, d3, d4, d5, d6, d7, df⟩ := cells8' hgi.f
            obtain ⟨g0, g1, g2, g3, g4, g5, g6, g7, g8, gf⟩ := cells9 hgi.g
            clear hcut
            clear hgi
            go_upto_if 37 with fail
            go_cut [38] from 38 to 40 (fun s38 wx => GI w wx k0 k3 k4 #[.int .i64 k, .int .u32 x, .int .u64 mc, .int .u32 i, .int .i64 t, .string s, .int .u64 n, .int .u64 g, .int .i64 y] #[.bool bx, .bool bm, .bool bi, .bool bt, .bool bu, .bool bn, .bool bg, .bool bw] #[.int .i64 k, .int .u32 x, .int .u64 mc, .int .u32 i, .int .i64 t, .string s, .int .u64 n, .int .u64 0, .int .i64 0])
            case first =>
              cases bn
              · obtain rfl : n = 0 := HN.out rfl
                go_wp2_with fail
                go_meet
                exact G5.out
              · go_wp2_with fail
                go_meet
                exact G5.out.set 6 _
            case rest =>
              clear c0 c1 c2 c3 c4 c5 c6 c7 c8 cf d0 d1 d2 d3 d4 d5 d6 d7 df g0 g1 g2 g3 g4 g5 g6 g7 g8 gf
              have hgi := hcut
              have G6 := hid hgi
              obtain ⟨c0, c1, c2, c3, c4, c5, c6, c7, c8, cf⟩ := cells9 hgi.m
              obtain ⟨d0, d1, d2, d3, d4, d5, d6, d7, df⟩ := cells8' hgi.f
              obtain ⟨g0, g1, g2, g3, g4, g5, g6, g7, g8, gf⟩ := cells9 hgi.g
              clear hcut
              clear hgi
              go_upto_if 42 with fail
              go_cut [43] from 43 to 45 (fun s43 wx => GI w wx k0 k3 k4 #[.int .i64 k, .int .u32 x, .int .u64 mc, .int .u32 i, .int .i64 t, .string s, .int .u64 n, .int .u64 g, .int .i64 y] #[.bool bx, .bool bm, .bool bi, .bool bt, .bool bu, .bool bn, .bool bg, .bool bw] #[.int .i64 k, .int .u32 x, .int .u64 mc, .int .u32 i, .int .i64 t, .string s, .int .u64 n, .int .u64 g, .int .i64 0])
              case first =>
                cases bg
                · obtain rfl : g = 0 := HG.out rfl
                  go_wp2_with fail
                  go_meet
                  exact G6.out
                · go_wp2_with fail
                  go_meet
                  exact G6.out.set 7 _
              case rest =>
                clear c0 c1 c2 c3 c4 c5 c6 c7 c8 cf d0 d1 d2 d3 d4 d5 d6 d7 df g0 g1 g2 g3 g4 g5 g6 g7 g8 gf
                have hgi := hcut
                have G7 := hid hgi
                obtain ⟨c0, c1, c2, c3, c4, c5, c6, c7, c8, cf⟩ := cells9 hgi.m
                obtain ⟨d0, d1, d2, d3, d4, d5, d6, d7, df⟩ := cells8' hgi.f
                obtain ⟨g0, g1, g2, g3, g4, g5, g6, g7, g8, gf⟩ := cells9 hgi.g
                clear hcut
                clear hgi
                go_upto_if 47 with fail
                go_cut [48] from 48 to 50 (fun s48 wx => GI w wx k0 k3 k4 #[.int .i64 k, .int .u32 x, .int .u64 mc, .int .u32 i, .int .i64 t, .string s, .int .u64 n, .int .u64 g, .int .i64 y] #[.bool bx, .bool bm, .bool bi, .bool bt, .bool bu, .bool bn, .bool bg, .bool bw] #[.int .i64 k, .int .u32 x, .int .u64 mc, .int .u32 i, .int .i64 t, .string s, .int .u64 n, .int .u64 g, .int .i64 y])
                case first =>
                  cases bw
                  · obtain rfl : y = 0 := HW.out rfl
                    go_wp2_with fail
                    go_meet
                    exact G7.out
                  · go_wp2_with fail
                    go_meet
                    exact G7.out.set 8 _
                case rest =>
                  clear c0 c1 c2 c3 c4 c5 c6 c7 c8 cf d0 d1 d2 d3 d4 d5 d6 d7 df g0 g1 g2 g3 g4 g5 g6 g7 g8 gf
                  have hgi := hcut
                  have G8 := hid hgi
                  obtain ⟨c0, c1, c2, c3, c4, c5, c6, c7, c8, cf⟩ := cells9 hgi.r
                  obtain ⟨g0, g1, g2, g3, g4, g5, g6, g7, g8, gf⟩ := cells9 hgi.g
                  clear hcut hgi
                  go_wp2_with fail
                  have hb := store9 G8.out.r (.int .i64 k) (.int .u32 x) (.int .u64 mc) (.int .u32 i) (.int .i64 t) (.string s) (.int .u64 n) (.int .u64 g) (.int .i64 y)
                  have hcc := chg9 G8.out.new (g := k0 + 1) (fun e => absurd e (Nat.not_lt.2 G8.out.lo1)) (.int .i64 k) (.int .u32 x) (.int .u64 mc) (.int .u32 i) (.int .i64 t) (.string s) (.int .u64 n) (.int .u64 g) (.int .i64 y)
                  exact bodyPost_ret (results_cell_row rfl _ _ (k0 + 1) 49 #[.int .i64 k, .int .u32 x, .int .u64 mc, .int .u32 i, .int .i64 t, .string s, .int .u64 n, .int .u64 g, .int .i64 y] (0, 0) _ rfl hb Try.underlying49 rfl (by kernel_rfl)) rfl ⟨rfl, hcc⟩
end Go.Proofs.Ytcnfmkhkibfpbaa
