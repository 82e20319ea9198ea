/- The walk of the step of both hubs: kind 1. -/
import Derived.Test.YtjlmbmamkhneiaaHst
namespace Go.Proofs.Ytjlmbmamkhneiaa
open Go Go.RowKit
set_option linter.unusedVariables false
set_option maxRecDepth 100000 in
set_option maxHeartbeats 16000000 in
theorem step_h1 {S : Nat → Prop} {w : World} {h : Nat} {hv : Value} {l : List (Nat × Nat)} {H : HubS} (a : HubAt w h hv l H) (hS : ∀ k, HubB h hv l k → S k) (hN : ∀ k, w.heap.size ≤ k → S k) {v : Value} {vs : List Value} (r : RHub w v vs H.taps) (M : Nat) (hlow : H.low M) (hM : M ≤ 100000)
    (z1 : Int) (vk vl : Value) (ks ls : List Int) (hk : RdI w vk ks) (hl : RdI w vl ls) (hkn : ks ≠ [] → ∀ g, vk.ownBlock = some g → ¬ S g) (hln : ls ≠ [] → ∀ g, vl.ownBlock = some g → ¬ S g) :
    Calls Try.prog 50 #[.pointer (some ⟨h, 0, none⟩), .agg #[v, I H.room], .agg #[I 1, I z1, vk, vl]] w fun e w' => ∃ v', e = .returned (.tuple #[.agg #[v', I H.room], .bool true]) ∧ StepOut S w w' h H.room (M + 5) v' := by
  obtain ⟨ka, kc, rfl⟩ := hk.shape
  obtain ⟨la, lc, rfl⟩ := hl.shape
  rw [List.length_map] at hk hl hkn hln
  rw [List.length_map, List.length_map]
  obtain ⟨ra, rc, rfl, hr1, hr2⟩ := owns_shape r.row
  have HK := hid hk
  have HL := hid hl
  have hkc : ks.length ≤ kc ∧ kc ≤ maxLen := by
    obtain ⟨_, _, e, q1, q2, _⟩ := hk
    injection e with _ _ e3
    rw [List.length_map] at q1; omega
  have hlc : ls.length ≤ lc ∧ lc ≤ maxLen := by
    obtain ⟨_, _, e, q1, q2, _⟩ := hl
    injection e with _ _ e3
    rw [List.length_map] at q1; omega
  unfold maxLen at hkc hlc hr2
  obtain ⟨hkc1, hkc2⟩ := hkc
  obtain ⟨hlc1, hlc2⟩ := hlc
  have LT := hid (show (ls.take 5).length = min 5 ls.length from List.length_take)
  have KT := hid (show (ks.take 6).length = min 6 ks.length from List.length_take)
  have A := hid a
  have HS := hid hS
  have HN := hid hN
  have R := hid r
  have KN := hid (show ks.take 6 ≠ [] → ∀ g, (Value.slice ka (ks.take 6).length kc).ownBlock = some g → ¬ S g from fun hne g hg => hkn (fun e => hne (by rw [e]; rfl)) g (by cases ka <;> first | exact hg | cases hg))
  have LN := hid (show ls.take 5 ≠ [] → ∀ g, (Value.slice la (ls.take 5).length lc).ownBlock = some g → ¬ S g from fun hne g hg => hln (fun e => hne (by rw [e]; rfl)) g (by cases la <;> first | exact hg | cases hg))
  have KR := hid (hk.take' 6)
  have LR := hid (hl.take' 5)
  have HLOW := hid hlow
  clear a hS hN r hk hl hkn hln hlow
  go_enter Try.func50, Try.ntmps50
  go_upto_region 1 with fail
  have N3 := hid (((((Chg.refl (fun _ => False) w).alloc (.cells #[.slice ra H.taps.length rc, I H.room] 73)).alloc (.cells #[I 1, I z1, .slice ka ks.length kc, .slice la ls.length lc] 76)).alloc (.cells #[.slice none 0 0, .int .i64 0] 73)))
  have B3 : Boxes (((w.alloc (.cells #[.slice ra H.taps.length rc, I H.room] 73)).alloc (.cells #[I 1, I z1, .slice ka ks.length kc, .slice la ls.length lc] 76)).alloc (.cells #[.slice none 0 0, .int .i64 0] 73)) w.heap.size (.slice ra H.taps.length rc) H.room 1 z1 (.slice ka ks.length kc) (.slice la ls.length lc) := by
    refine ⟨?_, ?_, alloc3_new w _ _ _⟩
    · rw [Below.heap_alloc _ _ _ (by simp; omega)]; exact heap_alloc2_old w _ _
    · rw [Below.heap_alloc _ _ _ (by simp)]; exact heap_alloc2_new w _ _
  replace B3 := hid B3
  rw [show w.heap.size + 1 + 1 = w.heap.size + 2 from rfl]
  generalize ((w.alloc (.cells #[.slice ra H.taps.length rc, I H.room] 73)).alloc (.cells #[I 1, I z1, .slice ka ks.length kc, .slice la ls.length lc] 76)).alloc (.cells #[.slice none 0 0, .int .i64 0] 73) = w3 at *
  obtain ⟨x0, x1, x2, x3, xf⟩ := cells4 B3.out.opb
  go_upto_if 32 with fail
  go_cut [33] from 33 to 36 (fun s33 wx => New w wx ∧ Boxes wx w.heap.size (.slice ra H.taps.length rc) H.room 1 z1 (.slice ka ks.length kc) (.slice la (ls.take 5).length lc))
  case first =>
    by_cases h5 : (5 : Int) < ls.length
    · have HE := hid (show (ls.take 5).length = 5 by have := LT.out; omega)
      have hc : (5 : Int) ≤ lc := by omega
      go_wp2_with fail
      go_meet
      refine ⟨N3.out.setCell (p := ⟨w.heap.size + 1, 3, none⟩) (fun e => absurd e (by simp)) _, ?_⟩
      rw [HE.out]
      exact B3.out.setL _
    · have HE := hid (show (ls.take 5).length = ls.length by have := LT.out; omega)
      go_wp2_with fail
      go_meet
      refine ⟨N3.out, ?_⟩
      rw [HE.out]
      exact B3.out
  case rest =>
    obtain ⟨hn, hb⟩ := hcut
    have N4 := hid hn
    have B4 := hid hb
    clear x0 x1 x2 x3 xf hn hb
    obtain ⟨x0, x1, x2, x3, xf⟩ := cells4 B4.out.opb
    obtain ⟨w4, rfl⟩ : ∃ w4 : World, w4 = wc := ⟨_, rfl⟩
    go_upto_if 40 with fail
    go_cut [41] from 41 to 44 (fun s41 wx => New w wx ∧ Boxes wx w.heap.size (.slice ra H.taps.length rc) H.room 1 z1 (.slice ka (ks.take 6).length kc) (.slice la (ls.take 5).length lc))
    case first =>
      by_cases h6 : (6 : Int) < ks.length
      · have HE := hid (show (ks.take 6).length = 6 by have := KT.out; omega)
        have hc : (6 : Int) ≤ kc := by omega
        go_wp2_with fail
        go_meet
        refine ⟨N4.out.setCell (p := ⟨w.heap.size + 1, 2, none⟩) (fun e => absurd e (by simp)) _, ?_⟩
        rw [HE.out]
        exact B4.out.setK _
      · have HE := hid (show (ks.take 6).length = ks.length by have := KT.out; omega)
        go_wp2_with fail
        go_meet
        refine ⟨N4.out, ?_⟩
        rw [HE.out]
        exact B4.out
    case rest =>
      obtain ⟨hn, hb⟩ := hcut
      have hi : HI S w wc h H (.slice ra H.taps.length rc) H.taps 1 z1 (.slice ka (ks.take 6).length kc) (.slice la (ls.take 5).length lc) (ks.take 6) (ls.take 5) :=
        ⟨⟨hv, l, A.out.chg hn (fun _ _ _ e => e), HS.out⟩, ⟨vs, R.out.new hn⟩, hb, rdI_keep KR.out hn (fun _ _ _ e => e), rdI_keep LR.out hn (fun _ _ _ e => e), KN.out, LN.out, hn.mono (fun _ _ e => e.elim), HN.out⟩
      have HI0 := hid hi
      have hlm : (ls.take 5).length ≤ 5 := by have := LT.out; omega
      have hkm : (ks.take 6).length ≤ 6 := by have := KT.out; omega
      obtain ⟨w5, rfl⟩ : ∃ w5 : World, w5 = wc := ⟨_, rfl⟩
      clear hi hn hb x0 x1 x2 x3 xf N3 N4 B3 B4 LR KR A R HL HK LT KT
      generalize ls.take 5 = ls1 at *
      generalize ks.take 6 = ks1 at *
      obtain ⟨x0, x1, x2, x3, xf⟩ := cells4 HI0.out.bx.opb
      obtain ⟨y0, y1, yf⟩ := cells2 HI0.out.bx.box
      obtain ⟨q0, q1, qf⟩ := cells2 HI0.out.bx.res
      clear x0 x1 x2 x3 xf y0 y1 yf q0 q1 qf
      obtain ⟨x0, _, _, x3, _⟩ := cells4 HI0.out.bx.opb
      have FEW := HI0.out.hub.choose_spec.choose_spec.1.few
      have BIG := hid HI0.out.hub.choose_spec.choose_spec.1.big
      go_upto_block 1 with fail
      go_cut [10, 89] from 89 to 103 (fun s10 s89 wx => ∃ v' : Value, s10 = .int .i64 (H.hits ls1) ∧ HI S w wx h H v' (H.after ls1).taps 1 z1 (.slice ka ks1.length kc) (.slice la ls1.length lc) ks1 ls1)
      case first =>
        go_wp2_with fail
        go_loopw [10, 89] (fun n i wr => ∃ (m : Nat) (v' : Value), i = .int .i64 m ∧ n = .int .i64 (H.hits (ls1.take m)) ∧ m ≤ ls1.length ∧ HI S w wr h H v' (H.after (ls1.take m)).taps 1 z1 (.slice ka ks1.length kc) (.slice la ls1.length lc) ks1 ls1) (fun _ i _ => ls1.length - (intOf i).toNat)
        case atStart => exact ⟨0, _, rfl, rfl, by omega, HI0.out⟩
        case round =>
          obtain ⟨W0, rfl⟩ : ∃ W0 : World, W0 = wr := ⟨_, rfl⟩
          obtain ⟨m, v', rfl, rfl, hm, hi⟩ := hrel
          have IR := hid hi
          by_cases hlt : m < ls1.length
          · obtain ⟨_, _, hsl, _, _, hcell⟩ := hi.rl
            injection hsl with e1 e2 e3
            obtain ⟨g, off, he, hv⟩ := hcell m (I ls1[m]) (by rw [List.getElem?_map, List.getElem?_eq_getElem hlt]; rfl)
            obtain rfl : la = some ⟨g, off, none⟩ := e1.trans he
            obtain ⟨vs6, hr⟩ := hi.ref
            obtain ⟨va, vc, rfl, _, _⟩ := owns_shape hr.row
            have TS := hid (take_snoc hlt)
            have HL := hid (show (H.after (ls1.take m)).low (M + 5) from fun t ht => Nat.le_trans (HubS.low_after HLOW.out (ls1.take m) t ht) (by rw [List.length_take]; omega))
            have LEN := hid (show (H.after (ls1.take m)).taps.length = H.taps.length from HubS.after_len H _)
            have P := Post_r hr (by rw [HubS.after_room]; exact BIG.out) (by rw [LEN.out]; exact FEW) (M + 5) HL.out (by omega) ls1[m]
            rw [HubS.after_room] at P
            obtain ⟨y0, y1, yf⟩ := cells2 hi.bx.box
            have HSN := hid (HubS.hits_snoc H (ls1.take m) ls1[m])
            have ASN := hid (HubS.after_snoc H (ls1.take m) ls1[m])
            have hb1 := HubS.hits_le H (ls1.take m)
            have hb2 := (H.after (ls1.take m)).hit_le
            rw [LEN.out] at hb2
            rw [List.length_take, Nat.min_eq_left (by omega)] at hb1
            have hb3 : H.taps.length * m ≤ 16 * 5 := Nat.mul_le_mul FEW (by omega)
            clear hcell e1 e2 e3 he hi hr
            generalize ls1[m] = x at *
            generalize hHM : H.after (ls1.take m) = HM at *
            have HHM := hid hHM
            have AR := hid (show (HM.all x).taps.length = HM.taps.length from HubS.all_len HM x)
            clear hHM
            go_wp2_with fail
            refine P.mono ?_
            rintro e w6 ⟨v6, vs7, rfl, hr6, hn6⟩
            obtain ⟨a6, c6, rfl, _, _⟩ := owns_shape hr6.row
            rw [AR.out] at hr6
            have X7 := hid (heap_alloc_new w6 (.cells #[.slice a6 HM.taps.length c6, I H.room] 73))
            have N7 := hid (show New W0 (w6.alloc (.cells #[.slice a6 HM.taps.length c6, I H.room] 73)) from hn6.alloc _)
            have R7 := hid (hr6.new ((Chg.refl _ w6).alloc (.cells #[.slice a6 HM.taps.length c6, I H.room] 73)))
            rw [AR.out]
            go_upto_region 19 with fail
            generalize w6.alloc (.cells #[.slice a6 HM.taps.length c6, I H.room] 73) = w7 at *
            obtain ⟨t0, t1, _⟩ := cells2 X7.out
            have I7 := hid (IR.out.new N7.out)
            obtain ⟨p0, p1, pf⟩ := cells2 I7.out.bx.box
            have I8 := hid ((IR.out.refd N7.out R7.out).room (I H.room) rfl)
            clear y0 y1 yf hr6 hn6 P
            have hno : HM.hit ≤ 16 := by omega
            go_wp2_with fail
            go_roundw
            case rel =>
              refine ⟨m + 1, .slice a6 HM.taps.length c6, by go_num, ?_, by omega, ?_⟩
              · rw [TS.out, HSN.out]; exact vi (by omega)
              · rw [TS.out, ASN.out]; exact I8.out
            case measure => simp [intOf]; omega
          · obtain rfl : m = ls1.length := by omega
            rw [List.take_length]
            go_wp2_with fail
            go_meet
            exact ⟨v', rfl, by have h := IR.out; rw [List.take_length] at h; exact h⟩
      case rest =>
        obtain ⟨v', rfl, hi⟩ := hcut
        have I8 := hid hi
        obtain ⟨vv, hr8⟩ := hi.ref
        obtain ⟨va, vc, hv8, _, _⟩ := owns_shape hr8.row
        subst hv8
        obtain ⟨hv2, l2, ha2, hs2⟩ := hi.hub
        have A8 := hid ha2
        have HS8 := hid hs2
        have L8 := hid hi.rl
        have LN8 := hid hi.ln
        obtain ⟨b0, b1, bf⟩ := cells2 hi.bx.box
        obtain ⟨_, _, _, o3, _⟩ := cells4 hi.bx.opb
        obtain ⟨r0, r1, rf⟩ := cells2 hi.bx.res
        clear hi hr8 ha2 hs2 x0 x3
        go_upto_region 22 with fail
        go_region_held3 (fun w' => w'.cell? ⟨w.heap.size, 0, none⟩ = some (.slice va (H.after ls1).taps.length vc) ∧ w'.cell? ⟨w.heap.size, 1, none⟩ = some (I H.room) ∧ w'.cell? ⟨w.heap.size + 1, 3, none⟩ = some (.slice la ls1.length lc))
          (go_keep)
          (first
            | (go_at_call 43; refine (Post_t (A8.out.chg (Chg.drew (Chg.refl (fun _ => False) _)) (fun _ _ _ e => e)) _ ls1 (L8.out.drew) (fun hne g hg e => LN8.out hne g hg (HS8.out g e)) M HLOW.out (by omega)).mono ?_; rintro e w9 ⟨rfl, ha', hc⟩; have I9 := hid ((I8.out.new (Chg.drew (Chg.refl (fun _ => False) _))).act (A8.out.chg (Chg.drew (Chg.refl (fun _ => False) _)) (fun _ _ _ e => e)) HS8.out ha' hc (fun k hk => .inl hk) (HubS.after_room H ls1)); obtain ⟨p0, p1, pf⟩ := cells2 I9.out.bx.box; rw [HubS.after_room] at p1; obtain ⟨_, _, _, p2, _⟩ := cells4 I9.out.bx.opb; obtain ⟨p3, p4, p5⟩ := cells2 I9.out.bx.res; clear ha' hc))
        obtain ⟨vz, hrz⟩ := I9.out.ref
        have FF := hid (I9.out.fin (M := M + 5) hrz (HubS.after_room H ls1) (fun t ht => Nat.le_trans (HubS.low_after HLOW.out ls1 t ht) (by omega)) (.int .i64 H.room) rfl)
        clear hrz
        go_wp2_with fail
        exact bodyPost_ret (results_row1 rfl _ _ (w.heap.size + 2) 73 #[.slice va (H.after ls1).taps.length vc, .int .i64 H.room] (0, 0) _ rfl FF.out.1 Try.underlying73 rfl (by kernel_rfl)) rfl ⟨_, rfl, FF.out.2⟩
end Go.Proofs.Ytjlmbmamkhneiaa
