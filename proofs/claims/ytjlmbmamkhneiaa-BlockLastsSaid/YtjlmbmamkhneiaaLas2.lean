/- The walk of the law BlockLasts. -/
import Derived.Test.YtjlmbmamkhneiaaLas
namespace Go.Proofs.Ytjlmbmamkhneiaa
open Go Go.RowKit
set_option linter.unusedVariables false
theorem new_six : (DevS.new 6).lasts.length = 6 ∧ (DevS.new 6).pend.length = 0 ∧ (DevS.new 6).keep.length = 0 := ⟨by simp [DevS.new, countOf]; decide, rfl, rfl⟩
set_option maxRecDepth 100000 in
set_option maxHeartbeats 32000000 in
theorem blockLasts_t (w : World) (a1 : Option Addr) (n1 c1 : Nat) (h1 : RdActs w a1 n1 c1) (a2 : Option Addr) (n2 c2 : Nat) (h2 : RdActs w a2 n2 c2) :
    Calls Try.prog 4 #[.slice a1 n1 c1, .slice a2 n2 c2] w fun e w' => e = .returned (.bool true) ∧ Below w.heap.size w w' := by
  obtain ⟨S, hS⟩ : ∃ S : Nat → Prop, S = fun k => w.heap.size ≤ k := ⟨_, rfl⟩
  have HS := hid hS
  have HSn := hid (show ∀ w1 : World, w.heap.size ≤ w1.heap.size → ∀ k, w1.heap.size ≤ k → S k from fun w1 h1 k hk => by rw [hS]; exact Nat.le_trans h1 hk)
  have HNS := hid (show ∀ k, k < w.heap.size → ¬ S k from fun k hk e => by rw [hS] at e; omega)
  obtain ⟨hlc1, hcm1, hacts1⟩ := h1
  obtain ⟨hlc2, hcm2, hacts2⟩ := h2
  have HA1 := hid hacts1
  have HA2 := hid hacts2
  unfold maxLen at hcm1 hcm2
  clear hS hacts1 hacts2
  go_enter Try.func4, Try.ntmps4
  go_wp2_with fail
  refine (New_any _ _ S (HSn.out _ (Nat.le_refl _))).mono ?_
  rintro e w1 ⟨d, rfl, hd, hn1⟩
  have D1 := hid hd
  have C1 := hid (show Chg S w w1 from hn1.mono (fun _ _ e => e.elim))
  clear hd hn1
  go_wp2_with fail
  refine (New_r _ _ S (HSn.out _ C1.out.size)).mono ?_
  rintro e w2 ⟨r, rfl, _, hr, hn2⟩
  have D2 := hid (D1.out.new hn2)
  have R2 := hid hr
  have C2 := hid (C1.out.trans hn2 (fun _ _ e => e.elim))
  clear hr hn2
  have N6 := hid new_six
  generalize DevS.new 6 = D0 at *
  go_wp2_with fail
  go_loopw [20] (fun i wr => ∃ m : Nat, i = .int .i64 m ∧ m ≤ n1 ∧ Chg S w wr ∧ ∃ D, DevAt S wr d D ∧ RefAt S wr r D ∧ D.pend.length ≤ m ∧ D.pend.length ≤ 20 ∧ D.lasts.length = 6 ∧ D.keep.length ≤ 12) (fun i _ => n1 - (intOf i).toNat)
  case atStart => exact ⟨0, rfl, by omega, C2.out, D0, D2.out, R2.out, by have := N6.out; omega, by have := N6.out; omega, N6.out.1, by have := N6.out; omega⟩
  case round =>
    obtain ⟨W0, rfl⟩ : ∃ W0 : World, W0 = wr := ⟨_, rfl⟩
    obtain ⟨m, rfl, hm, hc, D, hd, hr, hp, hp2, hl6, hk12⟩ := hrel
    have CR := hid hc
    have DR := hid hd
    have RR := hid hr
    have L6 := hid hl6
    clear hc hd hr hl6
    by_cases hlt : m < n1
    · obtain ⟨g, off, z0, z1, z2, vb, vk, b, ks, rfl, e0, e1, e2, e3, e4, hz2, hb, hk⟩ := HA1.out m hlt
      have hg : g < w.heap.size := lt_of_cell e0
      have k0 := CR.out.cell e0 (HNS.out g hg)
      have k1 := CR.out.cell e1 (HNS.out g hg)
      have k2 := CR.out.cell e2 (HNS.out g hg)
      have k3 := CR.out.cell e3 (HNS.out g hg)
      have k4 := CR.out.cell e4 (HNS.out g hg)
      have HB := hid hb
      have HK := hid hk
      obtain ⟨ba, bc, rfl⟩ := hb.shape
      obtain ⟨ka, kc, rfl⟩ := hk.shape
      rw [List.length_map] at k3 k4 HB HK
      clear e0 e1 e2 e3 e4 hb hk
      have A : New W0 (W0.alloc (.cells #[I z0, I z1, I z2, .slice ba b.length bc, .slice ka ks.length kc] 39)) := (Chg.refl _ W0).alloc _
      have CA : Chg S w (W0.alloc (.cells #[I z0, I z1, I z2, .slice ba b.length bc, .slice ka ks.length kc] 39)) := CR.out.alloc _
      have A := hid A
      have CA := hid CA
      by_cases h20 : m < 20
      · go_wp2_with fail
        refine (step_f (DR.out.new A.out) (RR.out.new A.out) (HSn.out _ CA.out.size) (by omega) z0 z1 z2 hz2 _ _ b ks (rd_chg HB.out CA.out (fun hne k hk => HNS.out k (rd_lt HB.out hne hk))) (rdI_chg HK.out CA.out (fun hne k hk => HNS.out k (rdI_lt HK.out hne hk))) (fun hne k hk => HNS.out k (rd_lt HB.out hne hk)) (fun hne k hk => HNS.out k (rdI_lt HK.out hne hk))).mono ?_
        rintro e w4 ⟨rfl, hc, D', hd, hr, hp', b1, k1', hk1', hD'⟩
        have C4 := hid (CA.out.trans hc (fun _ _ e => e))
        have D4 := hid hd
        have R4 := hid hr
        have E4 := hid hD'
        clear hc hd hr k0 k1 k2 k3 k4 hD'
        go_wp2_with fail
        go_roundw
        case rel => exact ⟨m + 1, by go_num, by omega, C4.out, D', D4.out, R4.out, by omega, by omega, by rw [E4.out, play_lasts]; exact L6.out, by rw [E4.out]; exact play_keep D z0 z1 z2 b1 k1' hk12 hk1'⟩
        case measure => simp [intOf]; omega
      · go_wp2_with fail
        go_roundw
        case rel => exact ⟨m + 1, by go_num, by omega, CA.out, D, DR.out.new A.out, RR.out.new A.out, by omega, by omega, L6.out, hk12⟩
        case measure => simp [intOf]; omega
    · have hk12 := hid hk12
      go_wp2_with fail
      refine (On_t DR.out).mono ?_
      rintro e w3 ⟨rfl, hd, hc⟩
      have D3 := hid hd
      have R3 := hid (show RefAt S w3 r D from by obtain ⟨x1, x2, x3, x4, x5, hr⟩ := RR.out; exact ⟨x1, x2, x3, x4, x5, hr.chg hc (by decide)⟩)
      have C3 := hid (CR.out.trans hc (fun _ _ e => e.1))
      clear hd hc
      go_wp2_with fail
      refine (On_r R3.out).mono ?_
      rintro e w4 ⟨rfl, hr, hc⟩
      have R4 := hid hr
      have D4 := hid (D3.out.chg hc (by decide))
      have C4 := hid (C3.out.trans hc (fun _ _ e => e.1))
      clear hr hc
      have ES := hid (on_sync D)
      go_wp2_with fail
      refine (Sync_t D4.out).mono ?_
      rintro e w5 ⟨he, hd, hc⟩
      rw [ES.out] at he
      subst he
      have D5 := hid hd
      have R5 := hid (show RefAt S w5 r D.on from by obtain ⟨x1, x2, x3, x4, x5, hr⟩ := R4.out; exact ⟨x1, x2, x3, x4, x5, hr.chg hc (by decide)⟩)
      have C5 := hid (C4.out.trans hc (fun _ _ e => e.1))
      clear hd hc
      go_wp2_with fail
      refine (Sync_r R5.out).mono ?_
      rintro e w6 ⟨he, hr, hc⟩
      rw [ES.out] at he
      subst he
      have R6 := hid hr
      have D6 := hid (D5.out.chg hc (by decide))
      have C6 := hid (C5.out.trans hc (fun _ _ e => e.1))
      clear hr hc
      have LS := hid (show D.on.sync.1.lasts.length = 6 by rw [ES.out]; show (settle D.pend D.lasts).length = 6; rw [settle_len]; exact L6.out)
      have PS := hid (show D.on.sync.1.pend = [] by rw [ES.out])
      have KS := hid (show D.on.sync.1.keep.length ≤ 12 by rw [ES.out]; exact hk12.out)
      have KP := hid (fun i (hi : i < 6) => on_sync_kept D (i := i) (by rw [L6.out]; exact hi))
      generalize D.on.sync.1 = D1 at *
      go_wp2_with fail
      refine (Copy_r R6.out PS.out KS.out).mono ?_
      rintro e w7 ⟨k, rfl, hk, hn⟩
      have K7 := hid hk
      have N7 := hid hn
      clear hk hn
      have W6 := hid (show w.heap.size ≤ w6.heap.size from C6.out.size)
      go_upto_block 2 with fail
      have HT := hid (heap_alloc_new w7 (.cells #[.bool false, .bool false, .bool false, .bool false, .bool false, .bool false] 42))
      have N8 := hid ((Chg.refl (fun _ => False) w7).alloc (.cells #[.bool false, .bool false, .bool false, .bool false, .bool false, .bool false] 42))
      have E8 := hid (show (w7.alloc (.cells #[.bool false, .bool false, .bool false, .bool false, .bool false, .bool false] 42)).heap.size = w7.heap.size + 1 by simp)
      generalize w7.alloc (.cells #[.bool false, .bool false, .bool false, .bool false, .bool false, .bool false] 42) = w8 at *
      have WTK := hid (show w6.heap.size ≤ w7.heap.size from N7.out.size)
      have KM := hid (fun (wx : World) (hm : ∀ g, w6.heap.size ≤ g → g < w7.heap.size → wx.heap[g]? = w8.heap[g]?) => K7.out.move (w' := wx) (fun g h1 h2 => (hm g h1 h2).trans (N8.out.block g h2 (fun e => e))))
      obtain ⟨S', hS'⟩ : ∃ S' : Nat → Prop, S' = fun j => S j ∧ ¬ (w6.heap.size ≤ j ∧ j < w8.heap.size) := ⟨_, rfl⟩
      have D8 := hid ((((D6.out.part (T := S') (fun j hj hs => by rw [hS']; exact ⟨hs, by omega⟩)).new N7.out).new N8.out))
      have R8 := hid ((((R6.out.part (T := S') (fun j hj hs => by rw [hS']; exact ⟨hs, by omega⟩)).new N7.out).new N8.out))
      have HS' := hid hS'
      have SN := hid (show ∀ w1 : World, w8.heap.size ≤ w1.heap.size → ∀ j, w1.heap.size ≤ j → S' j from fun w1 h1 j hj => by
        have e8 := E8.out
        have w67 := WTK.out
        have wb := W6.out
        rw [hS']
        exact ⟨HSn.out w1 (by omega) j hj, by omega⟩)
      have SS := hid (show ∀ j, S' j → S j from fun j h => by rw [hS'] at h; exact h.1)
      have SK := hid (show ∀ j, w6.heap.size ≤ j → j < w8.heap.size → ¬ S' j from fun j h1 h2 h => by rw [hS'] at h; exact h.2 ⟨h1, h2⟩)
      have ST := hid (show S w7.heap.size from HSn.out w7 (Nat.le_trans W6.out WTK.out) _ (Nat.le_refl _))
      have C8 := hid (show Chg S w w8 from (C6.out.trans N7.out (fun _ _ e => e.elim)).trans N8.out (fun _ _ e => e.elim))
      have T8 := hid (show Turned w8 w7.heap.size [false, false, false, false, false, false] D1 D1.lasts from ⟨HT.out, rfl, LS.out, fun i hi => KP.out i (by have := (List.getElem?_eq_some_iff.1 hi).1; simpa using this), KS.out⟩)
      have TKL := hid (show w7.heap.size < w8.heap.size by rw [E8.out]; omega)
      have P8 := hid (show D1.pend.length = 0 by rw [PS.out]; rfl)
      generalize w7.heap.size = tk at *
      clear hS' hp hp2
      go_cut [51] (fun s51 wx => ∃ D T, DevAt S' wx d D ∧ RefAt S' wx r D ∧ Turned wx tk T D D1.lasts ∧ Chg S w wx ∧ Chg (fun j => S' j ∨ j = tk) w8 wx)
      case first =>
        go_wp2_with fail
        go_loopw [51] (fun i wr => ∃ m : Nat, i = .int .i64 m ∧ m ≤ n2 ∧ m ≤ 20 ∧ Chg S w wr ∧ Chg (fun j => S' j ∨ j = tk) w8 wr ∧ ∃ D T, DevAt S' wr d D ∧ RefAt S' wr r D ∧ Turned wr tk T D D1.lasts ∧ D.pend.length ≤ m) (fun i _ => n2 - (intOf i).toNat)
        case atStart => exact ⟨0, rfl, by omega, by omega, C8.out, Chg.refl _ _, D1, _, D8.out, R8.out, T8.out, by have := P8.out; omega⟩
        case round =>
          obtain ⟨W0, rfl⟩ : ∃ W0 : World, W0 = wr := ⟨_, rfl⟩
          obtain ⟨q, rfl, hq, hq20, hc, hc8, D2, T, hd, hr, ht, hp⟩ := hrel
          have CR := hid hc
          have CR8 := hid hc8
          have DR := hid hd
          have RR := hid hr
          have TR := hid ht
          clear hc hc8 hd hr ht
          by_cases hlt2 : q < n2
          · by_cases h20 : q < 20
            · obtain ⟨g, off, z0, z1, z2, vb, vk, b, ks, rfl, e0, e1, e2, e3, e4, hz2, hb, hk⟩ := HA2.out q hlt2
              have hg : g < w.heap.size := lt_of_cell e0
              have k0 := CR.out.cell e0 (HNS.out g hg)
              have k1 := CR.out.cell e1 (HNS.out g hg)
              have k2 := CR.out.cell e2 (HNS.out g hg)
              have k3 := CR.out.cell e3 (HNS.out g hg)
              have k4 := CR.out.cell e4 (HNS.out g hg)
              have HB := hid hb
              have HK := hid hk
              obtain ⟨ba, bc, rfl⟩ := hb.shape
              obtain ⟨ka, kc, rfl⟩ := hk.shape
              rw [List.length_map] at k3 k4 HB HK
              clear e0 e1 e2 e3 e4 hb hk
              have A := hid ((Chg.refl (fun _ => False) W0).alloc (.cells #[I z0, I z1, I z2, .slice ba b.length bc, .slice ka ks.length kc] 39))
              have BX := hid (heap_alloc_new W0 (.cells #[I z0, I z1, I z2, .slice ba b.length bc, .slice ka ks.length kc] 39))
              go_upto_region 19 with fail
              generalize W0.alloc (.cells #[I z0, I z1, I z2, .slice ba b.length bc, .slice ka ks.length kc] 39) = WA at *
              generalize W0.heap.size = bx at *
              obtain ⟨x0, x1, x2, x3, x4, _⟩ := cells5 BX.out
              clear k0 k1 k2 k3 k4
              go_cut [75] (fun s75 wx => wx = WA ∧ ((s75 = .bool true ∧ 0 ≤ z0 ∧ z0 ≤ 1 ∧ 0 ≤ z1 ∧ z1 < 6) ∨ (s75 = .bool false ∧ ¬ (0 ≤ z0 ∧ z0 ≤ 1 ∧ 0 ≤ z1 ∧ z1 < 6))))
              case first =>
                by_cases y0 : 0 ≤ z0
                · by_cases y1 : z0 ≤ 1
                  · by_cases y2 : 0 ≤ z1
                    · by_cases y3 : z1 < 6
                      · go_wp2_with fail
                        go_meet
                        exact ⟨rfl, .inl ⟨rfl, y0, y1, y2, y3⟩⟩
                      · go_wp2_with fail
                        go_meet
                        exact ⟨rfl, .inr ⟨rfl, by omega⟩⟩
                    · go_wp2_with fail
                      go_meet
                      exact ⟨rfl, .inr ⟨rfl, by omega⟩⟩
                  · go_wp2_with fail
                    go_meet
                    exact ⟨rfl, .inr ⟨rfl, by omega⟩⟩
                · go_wp2_with fail
                  go_meet
                  exact ⟨rfl, .inr ⟨rfl, by omega⟩⟩
              case rest =>
                obtain ⟨rfl, hcond⟩ := hcut
                obtain ⟨WA, rfl⟩ : ∃ WA : World, WA = wc := ⟨_, rfl⟩
                have CA := hid (CR.out.trans A.out (fun _ _ e => e.elim))
                have TA := hid (TR.out.chg A.out (fun e => e))
                have DA := hid (DR.out.new A.out)
                have RA := hid (RR.out.new A.out)
                rcases hcond with ⟨rfl, y0, y1, y2, y3⟩ | ⟨rfl, hno⟩
                · obtain ⟨i, rfl⟩ : ∃ i : Nat, z1 = i := ⟨z1.toNat, by omega⟩
                  obtain ⟨bt, _, kt, ft⟩ := TA.out.cell (i := i) (by omega)
                  have HROW := hid (TA.out.setRow i)
                  have CB := hid (show Chg (fun j => j = tk) WA (WA.setCell ⟨tk, i, none⟩ (.bool true)) from chg_one WA tk i _)
                  go_upto_region 21 with fail
                  generalize WA.setCell ⟨tk, i, none⟩ (.bool true) = WB at *
                  clear x0 x1 x2 x3 x4 kt ft
                  have CM := hid (show Chg (Mut (fun j => j = tk) [42] WA) WA WB from CB.out.mono fun j _ e => by subst e; exact .of rfl TA.out.row (by simp))
                  have BB := hid (CM.out.stays BX.out (by simp))
                  obtain ⟨x0, x1, x2, x3, x4, _⟩ := cells5 BB.out
                  have CBS := hid (CA.out.trans CB.out (fun j _ e => by subst e; exact ST.out))
                  have RB := hid (show RefAt S' WB r D2 from by obtain ⟨y1, y2, y3, y4, y5, hr⟩ := RA.out; exact ⟨y1, y2, y3, y4, y5, hr.chg CM.out (by decide)⟩)
                  have S8 := hid (show w8.heap.size ≤ WB.heap.size from Nat.le_trans CR8.out.size (Nat.le_trans A.out.size CB.out.size))
                  go_wp2_with fail
                  refine (step_f (DA.out.chg CM.out (by decide)) RB.out (SN.out _ S8.out) (by omega) z0 i z2 hz2 _ _ b ks (rd_chg HB.out CBS.out (fun hne k hk => HNS.out k (rd_lt HB.out hne hk))) (rdI_chg HK.out CBS.out (fun hne k hk => HNS.out k (rdI_lt HK.out hne hk))) (fun hne k hk e => HNS.out k (rd_lt HB.out hne hk) (SS.out _ e)) (fun hne k hk e => HNS.out k (rdI_lt HK.out hne hk) (SS.out _ e))).mono ?_
                  rintro e w9 ⟨rfl, hc, D', hd, hr, hp', b1, k1', hk1', hD'⟩
                  have C9 := hid (CBS.out.trans hc (fun j _ e => SS.out j e))
                  have C98 := hid (((CR8.out.trans A.out (fun _ _ e => e.elim)).trans CB.out (fun _ _ e => .inr e)).trans hc (fun _ _ e => .inl e))
                  have T9 := hid (TA.out.step z0 i z2 b1 k1' hk1' (w' := w9) (((hc.block tk (lt_of_block HROW.out) (SK.out tk WTK.out TKL.out))).trans HROW.out) (.inr ⟨by omega, by omega, by rw [Int.toNat_natCast]⟩))
                  rw [← hD'] at T9
                  have D9 := hid hd
                  have R9 := hid hr
                  clear hc hd hr hD' x0 x1 x2 x3 x4
                  go_wp2_with fail
                  go_roundw
                  case rel => exact ⟨q + 1, by go_num, by omega, by omega, C9.out, C98.out, D', _, D9.out, R9.out, T9.out, by omega⟩
                  case measure => simp [intOf]; omega
                · have HNO := hid hno
                  clear hno
                  have S8 := hid (show w8.heap.size ≤ WA.heap.size from Nat.le_trans CR8.out.size A.out.size)
                  go_wp2_with fail
                  refine (step_f DA.out RA.out (SN.out _ S8.out) (by omega) z0 z1 z2 hz2 _ _ b ks (rd_chg HB.out CA.out (fun hne k hk => HNS.out k (rd_lt HB.out hne hk))) (rdI_chg HK.out CA.out (fun hne k hk => HNS.out k (rdI_lt HK.out hne hk))) (fun hne k hk e => HNS.out k (rd_lt HB.out hne hk) (SS.out _ e)) (fun hne k hk e => HNS.out k (rdI_lt HK.out hne hk) (SS.out _ e))).mono ?_
                  rintro e w9 ⟨rfl, hc, D', hd, hr, hp', b1, k1', hk1', hD'⟩
                  have C9 := hid (CA.out.trans hc (fun j _ e => SS.out j e))
                  have C98 := hid ((CR8.out.trans A.out (fun _ _ e => e.elim)).trans hc (fun _ _ e => .inl e))
                  have T9 := hid (TA.out.step z0 z1 z2 b1 k1' hk1' (w' := w9) (((hc.block tk (lt_of_block TA.out.row) (SK.out tk WTK.out TKL.out))).trans TA.out.row) (.inl ⟨HNO.out, rfl⟩))
                  rw [← hD'] at T9
                  have D9 := hid hd
                  have R9 := hid hr
                  clear hc hd hr hD' x0 x1 x2 x3 x4
                  go_wp2_with fail
                  go_roundw
                  case rel => exact ⟨q + 1, by go_num, by omega, by omega, C9.out, C98.out, D', _, D9.out, R9.out, T9.out, by omega⟩
                  case measure => simp [intOf]; omega
            · obtain rfl : q = 20 := by omega
              obtain ⟨g, off, z0, z1, z2, vb, vk, b, ks, rfl, e0, e1, e2, e3, e4, hz2, hb, hk⟩ := HA2.out 20 hlt2
              have hg : g < w.heap.size := lt_of_cell e0
              have k0 := CR.out.cell e0 (HNS.out g hg)
              have k1 := CR.out.cell e1 (HNS.out g hg)
              have k2 := CR.out.cell e2 (HNS.out g hg)
              have k3 := CR.out.cell e3 (HNS.out g hg)
              have k4 := CR.out.cell e4 (HNS.out g hg)
              obtain ⟨ba, bc, rfl⟩ := hb.shape
              obtain ⟨ka, kc, rfl⟩ := hk.shape
              clear e0 e1 e2 e3 e4 hb hk
              go_wp2_with fail
              go_meet
              exact ⟨D2, T, DR.out.new ((Chg.refl _ _).alloc _), RR.out.new ((Chg.refl _ _).alloc _), TR.out.chg (S := fun _ => False) ((Chg.refl _ _).alloc _) (fun e => e), CR.out.alloc _, CR8.out.alloc _⟩
          · go_wp2_with fail
            go_meet
            exact ⟨D2, T, DR.out, RR.out, TR.out, CR.out, CR8.out⟩
      case rest =>
        obtain ⟨D2, T, hd, hr, ht, hc, hc8⟩ := hcut
        have DR := hid hd
        have TR := hid ht
        have CR := hid hc
        have C9 := hid hc8
        clear hd hr ht hc hc8
        go_wp2_with fail
        refine (Off_t DR.out _ [] (RdV.nil _) (fun h => absurd rfl h)).mono ?_
        rintro e w10 ⟨rfl, hd, hc⟩
        have D10 := hid hd
        have C10 := hid hc
        clear hd hc
        go_wp2_with fail
        refine (On_t D10.out).mono ?_
        rintro e w11 ⟨rfl, hd, hc⟩
        have D11 := hid hd
        have C11 := hid (C10.out.tr hc)
        have K11 := hid (KM.out w11 (fun g h1 h2 => (C11.out.block g (Nat.lt_of_lt_of_le (Nat.lt_trans h2 TKL.out) C9.out.size) (fun e => SK.out g h1 (Nat.lt_trans h2 TKL.out) e.1)).trans (C9.out.block g (Nat.lt_trans h2 TKL.out) (fun e => by
          rcases e with e | e
          · exact SK.out g h1 (Nat.lt_trans h2 TKL.out) e
          · omega))))
        have T11 := hid (C11.out.stays TR.out.row (by simp))
        have CW := hid (CR.out.trans C11.out (fun j _ e => SS.out j e.1))
        have F6 := hid (show (D2.off []).on.lasts.length = 6 from (off_lasts D2 []).trans TR.out.six)
        have FD := hid (show (D2.off []).on.down = false from rfl)
        have FK := hid (fun (q : Nat) (hq : T[q]? = some false) (hr : (D2.off []).on.ready q = 0) => kept_read (TR.out.kept q hq) hr)
        have TL := hid TR.out.len
        clear hd hc
        generalize (D2.off []).on = F at *
        go_wp2_with fail
        go_loopw [13] (fun i wr => ∃ q : Nat, i = .int .i64 q ∧ q ≤ 6 ∧ DevAt S' wr d F ∧ New w11 wr) (fun i _ => 6 - (intOf i).toNat)
        case atStart => exact ⟨0, rfl, by omega, D11.out, Chg.refl _ _⟩
        case round =>
          obtain ⟨W0, rfl⟩ : ∃ W0 : World, W0 = wr := ⟨_, rfl⟩
          obtain ⟨q, rfl, hq, hd, hn⟩ := hrel
          have DR := hid hd
          have NR := hid hn
          clear hd hn
          by_cases hlt3 : q < 6
          · have hrd : F.ready q = 0 := by
              unfold DevS.ready
              have := F6.out
              rw [FD.out, if_neg (by decide), if_pos (by omega)]
            have RD := hid hrd
            clear hrd
            go_wp2_with fail
            refine (Read_t DR.out q).mono ?_
            rintro e w12 ⟨hg, hd, hn⟩
            rcases hg with ⟨h0, r1, rfl, ho⟩ | ⟨h0, _⟩
            case inr => exact absurd RD.out h0
            have D12 := hid hd
            have N12 := hid (NR.out.trans hn (fun _ _ e => e))
            obtain ⟨vE, e1, e2, e3, e4, es, hk1, hk2, hk3, hk4, hk5⟩ := K11.out.new N12.out
            have hq6 : q < es.length := by rw [hk4, LS.out]; exact hlt3
            obtain ⟨gE, cE, hvE, _, _⟩ := World.ownsRow.form hk3 (by omega)
            subst hvE
            have hE := World.ownsRow.cellAt hk3 q (by omega)
            obtain ⟨ev, hev⟩ : ∃ ev, es[q]? = some ev := ⟨es[q], List.getElem?_eq_getElem hq6⟩
            obtain ⟨xb, hxb⟩ : ∃ xb, D1.lasts[q]? = some xb := ⟨D1.lasts[q]'(by rw [LS.out]; exact hlt3), List.getElem?_eq_getElem _⟩
            rw [hev] at hE
            have hbs := hk5 q ev xb hev hxb
            obtain ⟨ha, hb, rfl, _, _⟩ := owns_shape hbs
            obtain ⟨c0, _, _, _, _, _⟩ := cells5 hk1
            rw [hk4, LS.out] at c0
            have T12 := (N12.out.block tk (lt_of_block T11.out) (fun e => e)).trans T11.out
            obtain ⟨bq, hbq⟩ : ∃ bq, T[q]? = some bq := ⟨T[q]'(by rw [TL.out]; exact hlt3), List.getElem?_eq_getElem _⟩
            have kt : w12.cell? ⟨tk, q, none⟩ = some (.bool bq) := by rw [cell_of_row w12 tk q _ 42 _ T12]; simp [hbq]
            have hF : F.ready q = 0 := RD.out
            have hbl : (F.block q).length = 64 := block_len D12.out.ok (by rw [F6.out]; exact hlt3)
            obtain ⟨ra, rc, rfl, _, _⟩ := owns_shape ho
            have hcv1 := bytes_str (w := w12.drew) (v := .slice ra 64 rc) (l := F.block q) ((RdV.of_owns (by rw [List.length_map, hbl]; exact ho)).drew)
            have hcv2 := bytes_str (w := w12.drew) (v := .slice ha xb.length hb) (l := xb) ((RdV.of_owns (by rw [List.length_map]; exact hbs)).drew)
            cases bq
            · have hfe : F.block q = xb := by
                have := FK.out q hbq RD.out
                rw [this, List.getD_eq_getElem?_getD, hxb]; rfl
              rw [hfe] at hcv1
              generalize ByteArray.mk xb.toArray = str at *
              have HBQ := hid hbq
              clear hfe hF hbl hk1 hk2 hk3 hk5 ho hbs T12 hev hd hn h0 hbq hk4 hq6 hxb
              go_wp2_with fail
              go_region
              all_goals go_wp2_with fail
              go_roundw
              case rel => exact ⟨q + 1, by go_num, by omega, D12.out.new ⟨rfl, rfl, rfl, Nat.le_refl _, fun _ _ _ => rfl⟩, N12.out.drew⟩
              case measure => simp [intOf]; omega
            · have HBQ := hid hbq
              clear hF hbl hk1 hk2 hk3 hk5 ho hbs T12 hev hd hn h0 hbq hk4 hq6 hxb hcv1 hcv2
              go_wp2_with fail
              go_region
              all_goals go_wp2_with fail
              go_roundw
              case rel => exact ⟨q + 1, by go_num, by omega, D12.out.new ⟨rfl, rfl, rfl, Nat.le_refl _, fun _ _ _ => rfl⟩, N12.out.drew⟩
              case measure => simp [intOf]; omega
          · go_wp2_with fail
            refine (awakeB_t _).mono ?_
            rintro e w13 ⟨rfl, hn⟩
            have C13 := hid ((CW.out.trans NR.out (fun _ _ e => e.elim)).trans hn (fun _ _ e => e.elim))
            clear hn
            go_wp2_with fail
            go_ret
            exact ⟨rfl, C13.out.below (fun k e => by rw [HS.out] at e; exact e) (Nat.le_refl _)⟩
end Go.Proofs.Ytjlmbmamkhneiaa
