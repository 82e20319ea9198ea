/- The walk of the step of both hubs: kind 0. -/
import Derived.Test.YtjlmbmamkhneiaaHst
namespace Go.Proofs.Ytjlmbmamkhneiaa
open Go Go.RowKit
set_option linter.unusedVariables false
set_option maxRecDepth 100000 in
set_option maxHeartbeats 16000000 in
theorem step_h0 {S : Nat → Prop} {w : World} {h : Nat} {hv : Value} {l : List (Nat × Nat)} {H : HubS} (a : HubAt w h hv l H) (hS : ∀ k, HubB h hv l k → S k) (hN : ∀ k, w.heap.size ≤ k → S k) {v : Value} {vs : List Value} (r : RHub w v vs H.taps) (M : Nat) (hlow : H.low M) (hM : M ≤ 100000)
    (z1 : Int) (vk vl : Value) (ks ls : List Int) (hk : RdI w vk ks) (hl : RdI w vl ls) (hkn : ks ≠ [] → ∀ g, vk.ownBlock = some g → ¬ S g) (hln : ls ≠ [] → ∀ g, vl.ownBlock = some g → ¬ S g) :
    Calls Try.prog 50 #[.pointer (some ⟨h, 0, none⟩), .agg #[v, I H.room], .agg #[I 0, I z1, vk, vl]] w fun e w' => ∃ v', e = .returned (.tuple #[.agg #[v', I H.room], .bool true]) ∧ StepOut S w w' h H.room (M + 5) v' := by
  obtain ⟨ka, kc, rfl⟩ := hk.shape
  obtain ⟨la, lc, rfl⟩ := hl.shape
  rw [List.length_map] at hk hl hkn hln
  rw [List.length_map, List.length_map]
  obtain ⟨ra, rc, rfl, hr1, hr2⟩ := owns_shape r.row
  have HK := hid hk
  have HL := hid hl
  have hkc : ks.length ≤ kc ∧ kc ≤ maxLen := by
    obtain ⟨_, _, e, q1, q2, _⟩ := hk
    injection e with _ _ e3
    rw [List.length_map] at q1; omega
  have hlc : ls.length ≤ lc ∧ lc ≤ maxLen := by
    obtain ⟨_, _, e, q1, q2, _⟩ := hl
    injection e with _ _ e3
    rw [List.length_map] at q1; omega
  unfold maxLen at hkc hlc hr2
  obtain ⟨hkc1, hkc2⟩ := hkc
  obtain ⟨hlc1, hlc2⟩ := hlc
  have LT := hid (show (ls.take 5).length = min 5 ls.length from List.length_take)
  have KT := hid (show (ks.take 6).length = min 6 ks.length from List.length_take)
  have A := hid a
  have HS := hid hS
  have HN := hid hN
  have R := hid r
  have KN := hid (show ks.take 6 ≠ [] → ∀ g, (Value.slice ka (ks.take 6).length kc).ownBlock = some g → ¬ S g from fun hne g hg => hkn (fun e => hne (by rw [e]; rfl)) g (by cases ka <;> first | exact hg | cases hg))
  have LN := hid (show ls.take 5 ≠ [] → ∀ g, (Value.slice la (ls.take 5).length lc).ownBlock = some g → ¬ S g from fun hne g hg => hln (fun e => hne (by rw [e]; rfl)) g (by cases la <;> first | exact hg | cases hg))
  have KR := hid (hk.take' 6)
  have LR := hid (hl.take' 5)
  have HLOW := hid hlow
  clear a hS hN r hk hl hkn hln hlow
  go_enter Try.func50, Try.ntmps50
  go_upto_region 1 with fail
  have N3 := hid (((((Chg.refl (fun _ => False) w).alloc (.cells #[.slice ra H.taps.length rc, I H.room] 73)).alloc (.cells #[I 0, I z1, .slice ka ks.length kc, .slice la ls.length lc] 76)).alloc (.cells #[.slice none 0 0, .int .i64 0] 73)))
  have B3 : Boxes (((w.alloc (.cells #[.slice ra H.taps.length rc, I H.room] 73)).alloc (.cells #[I 0, I z1, .slice ka ks.length kc, .slice la ls.length lc] 76)).alloc (.cells #[.slice none 0 0, .int .i64 0] 73)) w.heap.size (.slice ra H.taps.length rc) H.room 0 z1 (.slice ka ks.length kc) (.slice la ls.length lc) := by
    refine ⟨?_, ?_, alloc3_new w _ _ _⟩
    · rw [Below.heap_alloc _ _ _ (by simp; omega)]; exact heap_alloc2_old w _ _
    · rw [Below.heap_alloc _ _ _ (by simp)]; exact heap_alloc2_new w _ _
  replace B3 := hid B3
  rw [show w.heap.size + 1 + 1 = w.heap.size + 2 from rfl]
  generalize ((w.alloc (.cells #[.slice ra H.taps.length rc, I H.room] 73)).alloc (.cells #[I 0, I z1, .slice ka ks.length kc, .slice la ls.length lc] 76)).alloc (.cells #[.slice none 0 0, .int .i64 0] 73) = w3 at *
  obtain ⟨x0, x1, x2, x3, xf⟩ := cells4 B3.out.opb
  go_upto_if 32 with fail
  go_cut [33] from 33 to 36 (fun s33 wx => New w wx ∧ Boxes wx w.heap.size (.slice ra H.taps.length rc) H.room 0 z1 (.slice ka ks.length kc) (.slice la (ls.take 5).length lc))
  case first =>
    by_cases h5 : (5 : Int) < ls.length
    · have HE := hid (show (ls.take 5).length = 5 by have := LT.out; omega)
      have hc : (5 : Int) ≤ lc := by omega
      go_wp2_with fail
      go_meet
      refine ⟨N3.out.setCell (p := ⟨w.heap.size + 1, 3, none⟩) (fun e => absurd e (by simp)) _, ?_⟩
      rw [HE.out]
      exact B3.out.setL _
    · have HE := hid (show (ls.take 5).length = ls.length by have := LT.out; omega)
      go_wp2_with fail
      go_meet
      refine ⟨N3.out, ?_⟩
      rw [HE.out]
      exact B3.out
  case rest =>
    obtain ⟨hn, hb⟩ := hcut
    have N4 := hid hn
    have B4 := hid hb
    clear x0 x1 x2 x3 xf hn hb
    obtain ⟨x0, x1, x2, x3, xf⟩ := cells4 B4.out.opb
    obtain ⟨w4, rfl⟩ : ∃ w4 : World, w4 = wc := ⟨_, rfl⟩
    go_upto_if 40 with fail
    go_cut [41] from 41 to 44 (fun s41 wx => New w wx ∧ Boxes wx w.heap.size (.slice ra H.taps.length rc) H.room 0 z1 (.slice ka (ks.take 6).length kc) (.slice la (ls.take 5).length lc))
    case first =>
      by_cases h6 : (6 : Int) < ks.length
      · have HE := hid (show (ks.take 6).length = 6 by have := KT.out; omega)
        have hc : (6 : Int) ≤ kc := by omega
        go_wp2_with fail
        go_meet
        refine ⟨N4.out.setCell (p := ⟨w.heap.size + 1, 2, none⟩) (fun e => absurd e (by simp)) _, ?_⟩
        rw [HE.out]
        exact B4.out.setK _
      · have HE := hid (show (ks.take 6).length = ks.length by have := KT.out; omega)
        go_wp2_with fail
        go_meet
        refine ⟨N4.out, ?_⟩
        rw [HE.out]
        exact B4.out
    case rest =>
      obtain ⟨hn, hb⟩ := hcut
      have hi : HI S w wc h H (.slice ra H.taps.length rc) H.taps 0 z1 (.slice ka (ks.take 6).length kc) (.slice la (ls.take 5).length lc) (ks.take 6) (ls.take 5) :=
        ⟨⟨hv, l, A.out.chg hn (fun _ _ _ e => e), HS.out⟩, ⟨vs, R.out.new hn⟩, hb, rdI_keep KR.out hn (fun _ _ _ e => e), rdI_keep LR.out hn (fun _ _ _ e => e), KN.out, LN.out, hn.mono (fun _ _ e => e.elim), HN.out⟩
      have HI0 := hid hi
      have hlm : (ls.take 5).length ≤ 5 := by have := LT.out; omega
      have hkm : (ks.take 6).length ≤ 6 := by have := KT.out; omega
      obtain ⟨w5, rfl⟩ : ∃ w5 : World, w5 = wc := ⟨_, rfl⟩
      clear hi hn hb x0 x1 x2 x3 xf N3 N4 B3 B4 LR KR A R HL HK LT KT
      generalize ls.take 5 = ls1 at *
      generalize ks.take 6 = ks1 at *
      obtain ⟨x0, x1, x2, x3, xf⟩ := cells4 HI0.out.bx.opb
      obtain ⟨y0, y1, yf⟩ := cells2 HI0.out.bx.box
      obtain ⟨q0, q1, qf⟩ := cells2 HI0.out.bx.res
      obtain ⟨hv1, l1, ha, hs⟩ := HI0.out.hub
      obtain ⟨vs1, hr⟩ := HI0.out.ref
      have HA := hid ha
      have HSS := hid hs
      have RR := hid hr
      clear ha hs hr
      by_cases hlt : H.taps.length < 16
      · go_wp2_with fail
        refine (Tap_t HA.out hlt).mono ?_
        rintro e w6 ⟨rfl, hv6, l6, ha', hc, hb⟩
        have S6 := hid (HA.out.stays hc (ts := [3, 80]) (by decide))
        have I6 := hid (HI0.out.act HA.out HSS.out ha' hc hb rfl)
        have R6 := hid (RR.out.stay S6.out (by simp) (by simp))
        clear ha' hc hb x0 x1 x2 x3 xf y0 y1 yf q0 q1 qf
        obtain ⟨y0, y1, yf⟩ := cells2 I6.out.bx.box
        have ya : ∀ o, (w6.alloc o).cell? ⟨w.heap.size, 0, none⟩ = some (.slice ra H.taps.length rc) := fun o => acell y0 o
        have ROW := hid (show RdG w6 (.slice ra H.taps.length rc) H.taps.length ((vs1.zip H.taps).map tapV).flatten from RdG.of_owns R6.out.row)
        have ZL := hid R6.out.fl
        have ONE := hid R6.out.one
        have E0 := hid (own_none (e := 80) (size := 3) (heap_alloc_new w6 (.cells #[] 80)) (Nat.le_refl _))
        have hnn : ¬ (16 : Int) ≤ H.taps.length := by omega
        go_upto_region 11 with (first
          | (at_builtin; refine wpl_appendG (by rfl) _ _ 71 (by rfl) G71 w6.heap.size 0 H.taps.length (.slice (some ⟨w6.heap.size, 0, none⟩) 0 0) [] (by rfl) E0.out (.slice ra H.taps.length rc) (by rfl) _ (ROW.out.alloc _) ZL.out ONE.out (by omega) (by unfold maxLen; omega) (by simp) ?_; intro v5 w7 hown hg; rw [List.nil_append, Nat.zero_add] at hown; obtain ⟨a5, c5, hv5, _, _⟩ := owns_shape hown; subst hv5; have N7 := hid (show New w6 w7 from ((Chg.refl _ w6).alloc _).grown hg (fun k hk hlt => absurd hlt (by simp [Value.ownBlock] at hk; omega))); have R7 := hid (R6.out.copy (owns_base0 hown) (Stay.new N7.out)); have O7 := hid hown; clear hown hg)
          | (at_builtin; refine wpl_appendG (by rfl) _ _ 71 (by rfl) G71 w6.heap.size H.taps.length 1 (.slice a5 H.taps.length c5) _ (by rfl) (O7.out.alloc _) _ (by rfl) [.slice none 0 0, .bool true, .int .i64 0] (RdG.oneAt w7 [.slice none 0 0, .bool true, .int .i64 0] 80 (by rfl)) (by rfl) (by intro u hu; simp at hu; rcases hu with rfl | rfl | rfl <;> rfl) (by omega) (by unfold maxLen; omega) (by have := N7.out.size; simp; omega) ?_; intro v6 w8 hown hg; obtain ⟨a6, c6, hv6', _, _⟩ := owns_shape hown; subst hv6'; have N8 := hid (show New w6 w8 from (N7.out.alloc _).grown hg (fun k hk hlt => absurd hlt (Nat.not_lt.2 (owns_block O7.out hk).1))); have S8 := hid (show Stay [3] w7 w8 from (Stay.new ((Chg.refl _ w7).alloc _)).trans (Stay.grown (O7.out.alloc _) hg (by simp))); have R8 := hid (R7.out.snoc (t := ⟨true, [], 0⟩) (u := .slice none 0 0) (owns_base0 hown) S8.out (BufAt.nil _)); have I8 := hid (I6.out.refd N8.out R8.out); have k8 := N8.out.cell y0 (fun e => e); have B8 := hid (I6.out.bx.new N8.out); obtain ⟨p0, p1, pf⟩ := cells2 B8.out.box; clear hown hg))
        clear p0 p1 pf k8
        obtain ⟨p0, p1, pf⟩ := cells2 I8.out.bx.box
        obtain ⟨p2, p3, pg⟩ := cells2 I8.out.bx.res
        have hw : IntKind.i64.wrap (((H.taps.length : Int) + 1) - 1) = (H.taps.length : Int) := by rw [IntKind.wrap_i64]; omega
        have D8 := hid (HI.new I8.out (Chg.drew (Chg.refl (fun _ => False) _)))
        have FF := hid (D8.out.fin (M := M + 5) (D8.out.ref.choose_spec) rfl (fun t ht => by
          rcases List.mem_append.1 ht with ht | ht
          · exact Nat.le_trans (HLOW.out t ht) (by omega)
          · rw [List.mem_singleton.1 ht]; exact Nat.zero_le _) (.int .i64 H.room) rfl)
        go_region
        all_goals go_wp2_with fail
        all_goals exact bodyPost_ret (results_row1 rfl _ _ (w.heap.size + 2) 73 #[.slice a6 (H.taps.length + 1) c6, .int .i64 H.room] (0, 0) _ rfl FF.out.1 Try.underlying73 rfl (by kernel_rfl)) rfl ⟨_, rfl, FF.out.2⟩
      · go_wp2_with fail
        refine (Tap_full HA.out hlt).mono ?_
        rintro e w6 ⟨rfl, rfl⟩
        have hge : (16 : Int) ≤ H.taps.length := by omega
        have FF := hid (HI0.out.fin (M := M + 5) RR.out rfl (fun t ht => Nat.le_trans (HLOW.out t ht) (by omega)) (.int .i64 H.room) rfl)
        go_wp2_with fail
        exact bodyPost_ret (results_row1 rfl _ _ (w.heap.size + 2) 73 #[.slice ra H.taps.length rc, .int .i64 H.room] (0, 0) _ rfl FF.out.1 Try.underlying73 rfl (by kernel_rfl)) rfl ⟨_, rfl, FF.out.2⟩
end Go.Proofs.Ytjlmbmamkhneiaa
