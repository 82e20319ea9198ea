/- The walk of the step of both hubs: kind 4. -/
import Derived.Test.YtjlmbmamkhneiaaHst
namespace Go.Proofs.Ytjlmbmamkhneiaa
open Go Go.RowKit
set_option linter.unusedVariables false
set_option maxRecDepth 100000 in
set_option maxHeartbeats 16000000 in
theorem step_h4 {S : Nat → Prop} {w : World} {h : Nat} {hv : Value} {l : List (Nat × Nat)} {H : HubS} (a : HubAt w h hv l H) (hS : ∀ k, HubB h hv l k → S k) (hN : ∀ k, w.heap.size ≤ k → S k) {v : Value} {vs : List Value} (r : RHub w v vs H.taps) (M : Nat) (hlow : H.low M) (hM : M ≤ 100000)
    (z1 : Int) (vk vl : Value) (ks ls : List Int) (hk : RdI w vk ks) (hl : RdI w vl ls) (hkn : ks ≠ [] → ∀ g, vk.ownBlock = some g → ¬ S g) (hln : ls ≠ [] → ∀ g, vl.ownBlock = some g → ¬ S g) :
    Calls Try.prog 50 #[.pointer (some ⟨h, 0, none⟩), .agg #[v, I H.room], .agg #[I 4, I z1, vk, vl]] w fun e w' => ∃ v', e = .returned (.tuple #[.agg #[v', I H.room], .bool true]) ∧ StepOut S w w' h H.room (M + 5) v' := by
  obtain ⟨ka, kc, rfl⟩ := hk.shape
  obtain ⟨la, lc, rfl⟩ := hl.shape
  rw [List.length_map] at hk hl hkn hln
  rw [List.length_map, List.length_map]
  obtain ⟨ra, rc, rfl, hr1, hr2⟩ := owns_shape r.row
  have HK := hid hk
  have HL := hid hl
  have hkc : ks.length ≤ kc ∧ kc ≤ maxLen := by
    obtain ⟨_, _, e, q1, q2, _⟩ := hk
    injection e with _ _ e3
    rw [List.length_map] at q1; omega
  have hlc : ls.length ≤ lc ∧ lc ≤ maxLen := by
    obtain ⟨_, _, e, q1, q2, _⟩ := hl
    injection e with _ _ e3
    rw [List.length_map] at q1; omega
  unfold maxLen at hkc hlc hr2
  obtain ⟨hkc1, hkc2⟩ := hkc
  obtain ⟨hlc1, hlc2⟩ := hlc
  have LT := hid (show (ls.take 5).length = min 5 ls.length from List.length_take)
  have KT := hid (show (ks.take 6).length = min 6 ks.length from List.length_take)
  have A := hid a
  have HS := hid hS
  have HN := hid hN
  have R := hid r
  have KN := hid (show ks.take 6 ≠ [] → ∀ g, (Value.slice ka (ks.take 6).length kc).ownBlock = some g → ¬ S g from fun hne g hg => hkn (fun e => hne (by rw [e]; rfl)) g (by cases ka <;> first | exact hg | cases hg))
  have LN := hid (show ls.take 5 ≠ [] → ∀ g, (Value.slice la (ls.take 5).length lc).ownBlock = some g → ¬ S g from fun hne g hg => hln (fun e => hne (by rw [e]; rfl)) g (by cases la <;> first | exact hg | cases hg))
  have KR := hid (hk.take' 6)
  have LR := hid (hl.take' 5)
  have HLOW := hid hlow
  clear a hS hN r hk hl hkn hln hlow
  go_enter Try.func50, Try.ntmps50
  go_upto_region 1 with fail
  have N3 := hid (((((Chg.refl (fun _ => False) w).alloc (.cells #[.slice ra H.taps.length rc, I H.room] 73)).alloc (.cells #[I 4, I z1, .slice ka ks.length kc, .slice la ls.length lc] 76)).alloc (.cells #[.slice none 0 0, .int .i64 0] 73)))
  have B3 : Boxes (((w.alloc (.cells #[.slice ra H.taps.length rc, I H.room] 73)).alloc (.cells #[I 4, I z1, .slice ka ks.length kc, .slice la ls.length lc] 76)).alloc (.cells #[.slice none 0 0, .int .i64 0] 73)) w.heap.size (.slice ra H.taps.length rc) H.room 4 z1 (.slice ka ks.length kc) (.slice la ls.length lc) := by
    refine ⟨?_, ?_, alloc3_new w _ _ _⟩
    · rw [Below.heap_alloc _ _ _ (by simp; omega)]; exact heap_alloc2_old w _ _
    · rw [Below.heap_alloc _ _ _ (by simp)]; exact heap_alloc2_new w _ _
  replace B3 := hid B3
  rw [show w.heap.size + 1 + 1 = w.heap.size + 2 from rfl]
  generalize ((w.alloc (.cells #[.slice ra H.taps.length rc, I H.room] 73)).alloc (.cells #[I 4, I z1, .slice ka ks.length kc, .slice la ls.length lc] 76)).alloc (.cells #[.slice none 0 0, .int .i64 0] 73) = w3 at *
  obtain ⟨x0, x1, x2, x3, xf⟩ := cells4 B3.out.opb
  go_upto_if 32 with fail
  go_cut [33] from 33 to 36 (fun s33 wx => New w wx ∧ Boxes wx w.heap.size (.slice ra H.taps.length rc) H.room 4 z1 (.slice ka ks.length kc) (.slice la (ls.take 5).length lc))
  case first =>
    by_cases h5 : (5 : Int) < ls.length
    · have HE := hid (show (ls.take 5).length = 5 by have := LT.out; omega)
      have hc : (5 : Int) ≤ lc := by omega
      go_wp2_with fail
      go_meet
      refine ⟨N3.out.setCell (p := ⟨w.heap.size + 1, 3, none⟩) (fun e => absurd e (by simp)) _, ?_⟩
      rw [HE.out]
      exact B3.out.setL _
    · have HE := hid (show (ls.take 5).length = ls.length by have := LT.out; omega)
      go_wp2_with fail
      go_meet
      refine ⟨N3.out, ?_⟩
      rw [HE.out]
      exact B3.out
  case rest =>
    obtain ⟨hn, hb⟩ := hcut
    have N4 := hid hn
    have B4 := hid hb
    clear x0 x1 x2 x3 xf hn hb
    obtain ⟨x0, x1, x2, x3, xf⟩ := cells4 B4.out.opb
    obtain ⟨w4, rfl⟩ : ∃ w4 : World, w4 = wc := ⟨_, rfl⟩
    go_upto_if 40 with fail
    go_cut [41] from 41 to 44 (fun s41 wx => New w wx ∧ Boxes wx w.heap.size (.slice ra H.taps.length rc) H.room 4 z1 (.slice ka (ks.take 6).length kc) (.slice la (ls.take 5).length lc))
    case first =>
      by_cases h6 : (6 : Int) < ks.length
      · have HE := hid (show (ks.take 6).length = 6 by have := KT.out; omega)
        have hc : (6 : Int) ≤ kc := by omega
        go_wp2_with fail
        go_meet
        refine ⟨N4.out.setCell (p := ⟨w.heap.size + 1, 2, none⟩) (fun e => absurd e (by simp)) _, ?_⟩
        rw [HE.out]
        exact B4.out.setK _
      · have HE := hid (show (ks.take 6).length = ks.length by have := KT.out; omega)
        go_wp2_with fail
        go_meet
        refine ⟨N4.out, ?_⟩
        rw [HE.out]
        exact B4.out
    case rest =>
      obtain ⟨hn, hb⟩ := hcut
      have hi : HI S w wc h H (.slice ra H.taps.length rc) H.taps 4 z1 (.slice ka (ks.take 6).length kc) (.slice la (ls.take 5).length lc) (ks.take 6) (ls.take 5) :=
        ⟨⟨hv, l, A.out.chg hn (fun _ _ _ e => e), HS.out⟩, ⟨vs, R.out.new hn⟩, hb, rdI_keep KR.out hn (fun _ _ _ e => e), rdI_keep LR.out hn (fun _ _ _ e => e), KN.out, LN.out, hn.mono (fun _ _ e => e.elim), HN.out⟩
      have HI0 := hid hi
      have hlm : (ls.take 5).length ≤ 5 := by have := LT.out; omega
      have hkm : (ks.take 6).length ≤ 6 := by have := KT.out; omega
      obtain ⟨w5, rfl⟩ : ∃ w5 : World, w5 = wc := ⟨_, rfl⟩
      clear hi hn hb x0 x1 x2 x3 xf N3 N4 B3 B4 LR KR A R HL HK LT KT
      generalize ls.take 5 = ls1 at *
      generalize ks.take 6 = ks1 at *
      obtain ⟨x0, x1, x2, x3, xf⟩ := cells4 HI0.out.bx.opb
      obtain ⟨y0, y1, yf⟩ := cells2 HI0.out.bx.box
      obtain ⟨q0, q1, qf⟩ := cells2 HI0.out.bx.res
      obtain ⟨hv1, l1, ha, hs⟩ := HI0.out.hub
      have HA := hid ha
      have HSS := hid hs
      have K0 := hid HI0.out.rk
      have KN0 := hid HI0.out.kn
      obtain ⟨vs1, hr⟩ := HI0.out.ref
      have RR := hid hr
      clear ha hs hr
      go_wp2_with fail
      refine (First_t HA.out _ ks1 K0.out (fun hne g hg e => KN0.out hne g hg (HSS.out g e))).mono ?_
      rintro e w6 ⟨rfl, ha', hc⟩
      have S6 := hid (HA.out.stays hc (ts := [3, 80]) (by decide))
      have I6 := hid (HI0.out.act HA.out HSS.out ha' hc (fun k hk => .inl hk) (first_room H ks1))
      have R6 := hid (RR.out.stay S6.out (by simp) (by simp))
      have FEW := HA.out.few
      clear ha' hc x0 x1 x2 x3 xf y0 y1 yf q0 q1 qf
      obtain ⟨_, _, x2, _, _⟩ := cells4 I6.out.bx.opb
      obtain ⟨F, hF⟩ : ∃ F, H.first ks1 = F := ⟨_, rfl⟩
      have FR := hid (show F.1.room = H.room by rw [← hF]; exact first_room H ks1)
      have FL := hid (show F.1.low M by rw [← hF]; exact first_low HLOW.out ks1)
      rw [hF] at I6 ⊢
      have HF := hid hF
      clear hF
      obtain ⟨F1, f2, f3, f4⟩ := F
      dsimp only at I6 FR FL ⊢
      go_wp2_with fail
      go_loopw [150] (fun i wr => ∃ (m : Nat), i = .int .i64 m ∧ m ≤ ks1.length ∧ HI S w wr h F1 (.slice ra H.taps.length rc) H.taps 4 z1 (.slice ka ks1.length kc) (.slice la ls1.length lc) ks1 ls1 ∧ RHub wr (.slice ra H.taps.length rc) vs1 H.taps ∧ H.first (ks1.drop m) = (F1, f2, f3, f4)) (fun i _ => ks1.length - (intOf i).toNat)
      case atStart => exact ⟨0, rfl, by omega, I6.out, R6.out, HF.out⟩
      case round =>
        obtain ⟨W0, rfl⟩ : ∃ W0 : World, W0 = wr := ⟨_, rfl⟩
        obtain ⟨m, rfl, hm, hi, hr, hfd⟩ := hrel
        have IR := hid hi
        have RR2 := hid hr
        have FD := hid hfd
        obtain ⟨y0, y1, yf⟩ := cells2 hi.bx.box
        rw [FR.out] at y1
        obtain ⟨q0, q1, qf⟩ := cells2 hi.bx.res
        by_cases hlt : m < ks1.length
        · obtain ⟨_, _, hsl, _, _, hcell⟩ := hi.rk
          injection hsl with e1 e2 e3
          obtain ⟨g, off, he, hv⟩ := hcell m (I ks1[m]) (by rw [List.getElem?_map, List.getElem?_eq_getElem hlt]; rfl)
          obtain rfl : ka = some ⟨g, off, none⟩ := e1.trans he
          have FS := hid (first_drop (H := H) hlt)
          clear hcell e1 e2 e3 he hi hr hfd
          generalize ks1[m] = k at *
          go_wp2_with fail
          refine (Take_r RR2.out FEW k).mono ?_
          rintro e w7 ⟨v7, vs7, rfl, hr7, hn7⟩
          obtain ⟨a7, c7, rfl, _, _⟩ := owns_shape hr7.row
          have X8 := hid (heap_alloc_new w7 (.cells #[.slice a7 (H.take k).1.taps.length c7, I H.room] 73))
          have N8 := hid (show New W0 (w7.alloc (.cells #[.slice a7 (H.take k).1.taps.length c7, I H.room] 73)) from hn7.alloc _)
          have R8 := hid (hr7.new ((Chg.refl _ w7).alloc (.cells #[.slice a7 (H.take k).1.taps.length c7, I H.room] 73)))
          have I8 := hid (IR.out.new N8.out)
          cases hok : (H.take k).2.2
          · have TF := hid (take_false hok)
            clear hr7 hn7 y0 y1 yf q0 q1 qf
            rw [hok] at FS
            go_wp2_with fail
            go_roundw
            case rel => exact ⟨m + 1, by go_num, by omega, I8.out, RR2.out.new N8.out, by rw [← FD.out, FS.out]; rfl⟩
            case measure => simp [intOf]; omega
          · rw [hok] at FS
            have FE := hid (show ((H.take k).1, (H.take k).2.1, k, true) = (F1, f2, f3, f4) from by rw [← FD.out, FS.out]; rfl)
            have h1 : (H.take k).1 = F1 := congrArg (fun x => x.1) FE.out
            have h2 : (H.take k).2.1 = f2 := congrArg (fun x => x.2.1) FE.out
            have h3 : k = f3 := congrArg (fun x => x.2.2.1) FE.out
            have h4 : true = f4 := congrArg (fun x => x.2.2.2) FE.out
            clear hr7 hn7 y0 y1 yf q0 q1 qf
            subst h1 h2 h3 h4
            obtain ⟨q0, q1, qf⟩ := cells2 I8.out.bx.res
            have FF := hid (I8.out.fin (M := M + 5) R8.out (take_room H k) (fun t ht => Nat.le_trans (take_low HLOW.out k t ht) (by omega)) (.int .i64 H.room) rfl)
            go_wp2_with fail
            exact bodyPost_ret (results_row1 rfl _ _ (w.heap.size + 2) 73 #[.slice a7 (H.take k).1.taps.length c7, .int .i64 H.room] (0, 0) _ rfl FF.out.1 Try.underlying73 rfl (by kernel_rfl)) rfl ⟨_, rfl, FF.out.2⟩
        · obtain rfl : m = ks1.length := by omega
          have FE := hid (show (H, (0 : Int), (0 : Int), false) = (F1, f2, f3, f4) from by rw [← FD.out, List.drop_length]; rfl)
          have h1 : H = F1 := congrArg (fun x => x.1) FE.out
          have h2 : 0 = f2 := congrArg (fun x => x.2.1) FE.out
          have h3 : 0 = f3 := congrArg (fun x => x.2.2.1) FE.out
          have h4 : false = f4 := congrArg (fun x => x.2.2.2) FE.out
          clear hi hr hfd
          subst h1 h2 h3 h4
          have FF := hid (IR.out.fin (M := M + 5) RR2.out rfl (fun t ht => Nat.le_trans (HLOW.out t ht) (by omega)) (.int .i64 H.room) rfl)
          go_wp2_with fail
          exact bodyPost_ret (results_row1 rfl _ _ (w.heap.size + 2) 73 #[.slice ra H.taps.length rc, .int .i64 H.room] (0, 0) _ rfl FF.out.1 Try.underlying73 rfl (by kernel_rfl)) rfl ⟨_, rfl, FF.out.2⟩
end Go.Proofs.Ytjlmbmamkhneiaa
