/- The walk of the step of both hubs: kind 5. -/
import Derived.Test.YtjlmbmamkhneiaaHst
namespace Go.Proofs.Ytjlmbmamkhneiaa
open Go Go.RowKit
set_option linter.unusedVariables false
set_option maxRecDepth 100000 in
set_option maxHeartbeats 16000000 in
theorem step_h5 {S : Nat → Prop} {w : World} {h : Nat} {hv : Value} {l : List (Nat × Nat)} {H : HubS} (a : HubAt w h hv l H) (hS : ∀ k, HubB h hv l k → S k) (hN : ∀ k, w.heap.size ≤ k → S k) {v : Value} {vs : List Value} (r : RHub w v vs H.taps) (M : Nat) (hlow : H.low M) (hM : M ≤ 100000)
    (z1 : Int) (vk vl : Value) (ks ls : List Int) (hk : RdI w vk ks) (hl : RdI w vl ls) (hkn : ks ≠ [] → ∀ g, vk.ownBlock = some g → ¬ S g) (hln : ls ≠ [] → ∀ g, vl.ownBlock = some g → ¬ S g) :
    Calls Try.prog 50 #[.pointer (some ⟨h, 0, none⟩), .agg #[v, I H.room], .agg #[I 5, I z1, vk, vl]] w fun e w' => ∃ v', e = .returned (.tuple #[.agg #[v', I H.room], .bool true]) ∧ StepOut S w w' h H.room (M + 5) v' := by
  obtain ⟨ka, kc, rfl⟩ := hk.shape
  obtain ⟨la, lc, rfl⟩ := hl.shape
  rw [List.length_map] at hk hl hkn hln
  rw [List.length_map, List.length_map]
  obtain ⟨ra, rc, rfl, hr1, hr2⟩ := owns_shape r.row
  have HK := hid hk
  have HL := hid hl
  have hkc : ks.length ≤ kc ∧ kc ≤ maxLen := by
    obtain ⟨_, _, e, q1, q2, _⟩ := hk
    injection e with _ _ e3
    rw [List.length_map] at q1; omega
  have hlc : ls.length ≤ lc ∧ lc ≤ maxLen := by
    obtain ⟨_, _, e, q1, q2, _⟩ := hl
    injection e with _ _ e3
    rw [List.length_map] at q1; omega
  unfold maxLen at hkc hlc hr2
  obtain ⟨hkc1, hkc2⟩ := hkc
  obtain ⟨hlc1, hlc2⟩ := hlc
  have LT := hid (show (ls.take 5).length = min 5 ls.length from List.length_take)
  have KT := hid (show (ks.take 6).length = min 6 ks.length from List.length_take)
  have A := hid a
  have HS := hid hS
  have HN := hid hN
  have R := hid r
  have KN := hid (show ks.take 6 ≠ [] → ∀ g, (Value.slice ka (ks.take 6).length kc).ownBlock = some g → ¬ S g from fun hne g hg => hkn (fun e => hne (by rw [e]; rfl)) g (by cases ka <;> first | exact hg | cases hg))
  have LN := hid (show ls.take 5 ≠ [] → ∀ g, (Value.slice la (ls.take 5).length lc).ownBlock = some g → ¬ S g from fun hne g hg => hln (fun e => hne (by rw [e]; rfl)) g (by cases la <;> first | exact hg | cases hg))
  have KR := hid (hk.take' 6)
  have LR := hid (hl.take' 5)
  have HLOW := hid hlow
  clear a hS hN r hk hl hkn hln hlow
  go_enter Try.func50, Try.ntmps50
  go_upto_region 1 with fail
  have N3 := hid (((((Chg.refl (fun _ => False) w).alloc (.cells #[.slice ra H.taps.length rc, I H.room] 73)).alloc (.cells #[I 5, I z1, .slice ka ks.length kc, .slice la ls.length lc] 76)).alloc (.cells #[.slice none 0 0, .int .i64 0] 73)))
  have B3 : Boxes (((w.alloc (.cells #[.slice ra H.taps.length rc, I H.room] 73)).alloc (.cells #[I 5, I z1, .slice ka ks.length kc, .slice la ls.length lc] 76)).alloc (.cells #[.slice none 0 0, .int .i64 0] 73)) w.heap.size (.slice ra H.taps.length rc) H.room 5 z1 (.slice ka ks.length kc) (.slice la ls.length lc) := by
    refine ⟨?_, ?_, alloc3_new w _ _ _⟩
    · rw [Below.heap_alloc _ _ _ (by simp; omega)]; exact heap_alloc2_old w _ _
    · rw [Below.heap_alloc _ _ _ (by simp)]; exact heap_alloc2_new w _ _
  replace B3 := hid B3
  rw [show w.heap.size + 1 + 1 = w.heap.size + 2 from rfl]
  generalize ((w.alloc (.cells #[.slice ra H.taps.length rc, I H.room] 73)).alloc (.cells #[I 5, I z1, .slice ka ks.length kc, .slice la ls.length lc] 76)).alloc (.cells #[.slice none 0 0, .int .i64 0] 73) = w3 at *
  obtain ⟨x0, x1, x2, x3, xf⟩ := cells4 B3.out.opb
  go_upto_if 32 with fail
  go_cut [33] from 33 to 36 (fun s33 wx => New w wx ∧ Boxes wx w.heap.size (.slice ra H.taps.length rc) H.room 5 z1 (.slice ka ks.length kc) (.slice la (ls.take 5).length lc))
  case first =>
    by_cases h5 : (5 : Int) < ls.length
    · have HE := hid (show (ls.take 5).length = 5 by have := LT.out; omega)
      have hc : (5 : Int) ≤ lc := by omega
      go_wp2_with fail
      go_meet
      refine ⟨N3.out.setCell (p := ⟨w.heap.size + 1, 3, none⟩) (fun e => absurd e (by simp)) _, ?_⟩
      rw [HE.out]
      exact B3.out.setL _
    · have HE := hid (show (ls.take 5).length = ls.length by have := LT.out; omega)
      go_wp2_with fail
      go_meet
      refine ⟨N3.out, ?_⟩
      rw [HE.out]
      exact B3.out
  case rest =>
    obtain ⟨hn, hb⟩ := hcut
    have N4 := hid hn
    have B4 := hid hb
    clear x0 x1 x2 x3 xf hn hb
    obtain ⟨x0, x1, x2, x3, xf⟩ := cells4 B4.out.opb
    obtain ⟨w4, rfl⟩ : ∃ w4 : World, w4 = wc := ⟨_, rfl⟩
    go_upto_if 40 with fail
    go_cut [41] from 41 to 44 (fun s41 wx => New w wx ∧ Boxes wx w.heap.size (.slice ra H.taps.length rc) H.room 5 z1 (.slice ka (ks.take 6).length kc) (.slice la (ls.take 5).length lc))
    case first =>
      by_cases h6 : (6 : Int) < ks.length
      · have HE := hid (show (ks.take 6).length = 6 by have := KT.out; omega)
        have hc : (6 : Int) ≤ kc := by omega
        go_wp2_with fail
        go_meet
        refine ⟨N4.out.setCell (p := ⟨w.heap.size + 1, 2, none⟩) (fun e => absurd e (by simp)) _, ?_⟩
        rw [HE.out]
        exact B4.out.setK _
      · have HE := hid (show (ks.take 6).length = ks.length by have := KT.out; omega)
        go_wp2_with fail
        go_meet
        refine ⟨N4.out, ?_⟩
        rw [HE.out]
        exact B4.out
    case rest =>
      obtain ⟨hn, hb⟩ := hcut
      have hi : HI S w wc h H (.slice ra H.taps.length rc) H.taps 5 z1 (.slice ka (ks.take 6).length kc) (.slice la (ls.take 5).length lc) (ks.take 6) (ls.take 5) :=
        ⟨⟨hv, l, A.out.chg hn (fun _ _ _ e => e), HS.out⟩, ⟨vs, R.out.new hn⟩, hb, rdI_keep KR.out hn (fun _ _ _ e => e), rdI_keep LR.out hn (fun _ _ _ e => e), KN.out, LN.out, hn.mono (fun _ _ e => e.elim), HN.out⟩
      have HI0 := hid hi
      have hlm : (ls.take 5).length ≤ 5 := by have := LT.out; omega
      have hkm : (ks.take 6).length ≤ 6 := by have := KT.out; omega
      obtain ⟨w5, rfl⟩ : ∃ w5 : World, w5 = wc := ⟨_, rfl⟩
      clear hi hn hb x0 x1 x2 x3 xf N3 N4 B3 B4 LR KR A R HL HK LT KT
      generalize ls.take 5 = ls1 at *
      generalize ks.take 6 = ks1 at *
      obtain ⟨x0, x1, x2, x3, xf⟩ := cells4 HI0.out.bx.opb
      obtain ⟨y0, y1, yf⟩ := cells2 HI0.out.bx.box
      obtain ⟨q0, q1, qf⟩ := cells2 HI0.out.bx.res
      obtain ⟨hv1, l1, ha, hs⟩ := HI0.out.hub
      obtain ⟨vs1, hr⟩ := HI0.out.ref
      have HA := hid ha
      have HSS := hid hs
      have RR := hid hr
      clear ha hs hr
      go_upto_region 38 with fail
      go_cut [28] from 188 to 207 (fun s28 wx => wx = w5 ∧ s28 = .bool (H.shut z1).2)
      case first =>
        by_cases hneg : z1 < 0
        · have E := hid (show (H.shut z1).2 = false by unfold HubS.shut; rw [if_neg (by omega)])
          go_wp2_with fail
          go_meet
          exact ⟨rfl, by rw [E.out]⟩
        · by_cases hge : (H.taps.length : Int) ≤ z1
          · have E := hid (show (H.shut z1).2 = false by unfold HubS.shut; rw [if_neg (by omega)])
            go_wp2_with fail
            go_meet
            exact ⟨rfl, by rw [E.out]⟩
          · obtain ⟨i, rfl⟩ : ∃ i : Nat, z1 = i := ⟨z1.toNat, by omega⟩
            have hi : i < H.taps.length := by omega
            obtain ⟨g, cap, u, hv', k0, k1, k2, hb, _⟩ := RR.out.at hi
            injection hv' with ea en ec
            subst ea
            have E := hid (show (H.shut i).2 = H.taps[i].op by unfold HubS.shut; rw [if_pos (by omega), Int.toNat_natCast, List.getElem?_eq_getElem hi]; dsimp only; cases H.taps[i].op <;> rfl)
            generalize H.taps[i].op = op at *
            have h0 : (0 : Int) ≤ i := by omega
            have h1 : (i : Int) < H.taps.length := by omega
            clear hb en ec k0 k2 hge hneg
            cases op
            all_goals go_wp2_with fail
            all_goals go_meet
            all_goals exact ⟨rfl, by rw [E.out]⟩
      case rest =>
        obtain ⟨hwx, rfl⟩ := hcut
        subst hwx
        obtain ⟨w6, rfl⟩ : ∃ w6 : World, w6 = wc := ⟨_, rfl⟩
        obtain ⟨so, hso⟩ : ∃ so, (H.shut z1).2 = so := ⟨_, rfl⟩
        rw [hso]
        have HSO := hid hso
        clear hso
        go_upto_if 208 with fail
        go_cut [209] from 209 to 219 (fun s209 wx => ∃ v', HI S w wx h H v' (H.shut z1).1.taps 5 z1 (.slice ka ks1.length kc) (.slice la ls1.length lc) ks1 ls1)
        case first =>
          cases so
          · have SF := hid (shut_false HSO.out)
            go_wp2_with fail
            go_meet
            exact ⟨_, by rw [SF.out]; exact HI0.out⟩
          · obtain ⟨i, hi, rfl, hop, hsh⟩ := shut_true HSO.out
            have HI' := hid hi
            have OP := hid hop
            have SH := hid hsh
            obtain ⟨g, cap, u, hv', _, _, _, _, hvu⟩ := RR.out.at hi
            injection hv' with ea en ec
            subst ea
            have HVU := hid hvu
            have ROW := hid (show RdG w6 (.slice (some ⟨g, 0, none⟩) H.taps.length rc) H.taps.length ((vs1.zip H.taps).map tapV).flatten from RdG.of_owns RR.out.row)
            have ZL := hid RR.out.fl
            have ONE := hid RR.out.one
            have FEW := HA.out.few
            have E0 := hid (own_none (e := 80) (size := 3) (heap_alloc_new w6 (.cells #[] 80)) (Nat.le_refl _))
            have ya : ∀ o, (w6.alloc o).cell? ⟨w.heap.size, 0, none⟩ = some (.slice (some ⟨g, 0, none⟩) H.taps.length rc) := fun o => acell y0 o
            clear hop hsh hvu en ec
            go_upto_region 41 with (at_builtin; refine wpl_appendG (by rfl) _ _ 71 (by rfl) G71 w6.heap.size 0 H.taps.length (.slice (some ⟨w6.heap.size, 0, none⟩) 0 0) [] (by rfl) E0.out (.slice (some ⟨g, 0, none⟩) H.taps.length rc) (by rfl) _ (ROW.out.alloc _) ZL.out ONE.out (by omega) (by unfold maxLen; omega) (by simp) ?_; intro v5 w7 hown hg; rw [List.nil_append, Nat.zero_add] at hown; obtain ⟨g5, cc5, hv5, hg5, _⟩ := World.ownsRow.form hown (Nat.lt_of_le_of_lt (Nat.zero_le _) HI'.out); subst hv5; have N7 := hid (show New w6 w7 from ((Chg.refl _ w6).alloc _).grown hg (fun k hk hlt => absurd hlt (by simp [Value.ownBlock] at hk; omega))); have R7 := hid (RR.out.copy (owns_base0 hown) (Stay.new N7.out)); have O7 := hid hown; have B7 := hid (HI0.out.bx.new N7.out); obtain ⟨yy0, yy1, yyf⟩ := cells2 B7.out.box; have I7 := hid (HI0.out.refd N7.out R7.out); clear hown hg hg5)
            have S8 := hid (show Stay [3, 80] w7 (w7.setCell ⟨w.heap.size, 0, none⟩ (.slice (some ⟨g5, 0, none⟩) H.taps.length cc5)) from Stay.set B7.out.box (by simp) 0 _)
            have R8 := hid (R7.out.stay S8.out (by simp) (by simp))
            have O8 := hid (S8.out.owns O7.out (by simp))
            have yb := I7.out.bx
            generalize w7.setCell ⟨w.heap.size, 0, none⟩ (.slice (some ⟨g5, 0, none⟩) H.taps.length cc5) = w8 at *
            obtain ⟨z0', z1', _⟩ := cells2 yb.box
            obtain ⟨_, o1, _, _, _⟩ := cells4 yb.opb
            have c5 := R8.out.chan3 rfl HI'.out
            have f5 := World.ownsRow.frozenAt O8.out (i * 3 + 1)
            clear yb
            go_wp2_with fail
            go_meet
            obtain ⟨_, _, cs, hcs⟩ := owns_block O8.out (g := g5) rfl
            refine ⟨_, I7.out.stored hcs (HN.out g5 (Nat.le_trans HI0.out.fr.size (owns_block O8.out (g := g5) rfl).1)) (i * 3 + 1) _ (vs' := vs1.set i u) ?_⟩
            rw [SH.out]
            exact R8.out.put (j := 1) HI'.out (by omega) (.bool false) HVU.out rfl (show BufAt w8 u H.taps[i].buf from R8.out.bufs i u _ HVU.out (List.getElem?_eq_getElem HI'.out))
        case rest =>
          obtain ⟨v', hi⟩ := hcut
          have I8 := hid hi
          obtain ⟨vv, hr8⟩ := hi.ref
          obtain ⟨va, vc, hv8, _, _⟩ := owns_shape hr8.row
          subst hv8
          obtain ⟨hv2, l2, ha2, hs2⟩ := hi.hub
          have R8 := hid hr8
          have A8 := hid ha2
          have HS8 := hid hs2
          obtain ⟨b0, b1, bf⟩ := cells2 hi.bx.box
          obtain ⟨_, o1, _, _, _⟩ := cells4 hi.bx.opb
          obtain ⟨r0, r1, rf⟩ := cells2 hi.bx.res
          clear hi hr8 ha2 hs2 x0 x1 x2 x3 xf y0 y1 yf q0 q1 qf
          go_upto_region 42 with fail
          go_region_held3 (fun w' => w'.cell? ⟨w.heap.size, 0, none⟩ = some (.slice va (H.shut z1).1.taps.length vc) ∧ w'.cell? ⟨w.heap.size, 1, none⟩ = some (I H.room) ∧ w'.cell? ⟨w.heap.size + 1, 1, none⟩ = some (I z1))
            (go_keep)
            (first
              | (go_at_call 48; refine (Shut_t (A8.out.chg (Chg.drew (Chg.refl (fun _ => False) _)) (fun _ _ _ e => e)) z1).mono ?_; rintro e w9 ⟨he, ha', hc⟩; rw [HSO.out] at he; subst he; have I9 := hid ((I8.out.new (Chg.drew (Chg.refl (fun _ => False) _))).act (A8.out.chg (Chg.drew (Chg.refl (fun _ => False) _)) (fun _ _ _ e => e)) HS8.out ha' hc (fun k hk => .inl hk) (shut_room H z1)); obtain ⟨p0, p1, pf⟩ := cells2 I9.out.bx.box; rw [shut_room] at p1; obtain ⟨_, p2, _, _, _⟩ := cells4 I9.out.bx.opb; obtain ⟨p3, p4, p5⟩ := cells2 I9.out.bx.res; clear ha' hc))
          obtain ⟨vz, hrz⟩ := I9.out.ref
          have FF := hid (I9.out.fin (M := M + 5) hrz (shut_room H z1) (shut_low (fun t ht => Nat.le_trans (HLOW.out t ht) (by omega)) z1) (.int .i64 H.room) rfl)
          clear hrz
          cases so
          all_goals go_wp2_with fail
          all_goals exact bodyPost_ret (results_row1 rfl _ _ (w.heap.size + 2) 73 #[.slice va (H.shut z1).1.taps.length vc, .int .i64 H.room] (0, 0) _ rfl FF.out.1 Try.underlying73 rfl (by kernel_rfl)) rfl ⟨_, rfl, FF.out.2⟩
end Go.Proofs.Ytjlmbmamkhneiaa
