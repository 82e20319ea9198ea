/- The walk of the law BlockTorn. -/
import Derived.Test.YtjlmbmamkhneiaaTor
import Derived.Deep.DeepCutAuto
import Derived.Outline
namespace Go.Proofs.Ytjlmbmamkhneiaa
open Go Go.RowKit
set_option linter.unusedVariables false
set_option maxRecDepth 100000 in
set_option maxHeartbeats 16000000 in
theorem blockTorn_t (vf vl vk : Value) (f : List UInt8) (l : List (List UInt8)) (ks : List Int) (w : World) (hf : Rd w vf f) (hl : RdS w vl l) (hk : RdI w vk ks) :
    Calls Try.prog 3 #[vf, vl, vk] w fun e w' => e = .returned (.bool true) ∧ Below w.heap.size w w' := by
  obtain ⟨S, hS⟩ : ∃ S : Nat → Prop, S = fun k => w.heap.size ≤ k := ⟨_, rfl⟩
  have HS := hid hS
  clear hS
  have HSn : Hid (∀ w1 : World, w.heap.size ≤ w1.heap.size → ∀ k, w1.heap.size ≤ k → S k) := fun w1 h1 k hk => by rw [HS.out]; exact Nat.le_trans h1 hk
  have HNS : Hid (∀ (v : Value) (xs : List Value), RdV w v xs → ∀ (w1 : World) (k : Nat), k < w.heap.size → ¬ Mut S pts w1 k) := fun v xs _ w1 k hk e => by have := e.1; rw [HS.out] at this; omega
  have big : ∀ {v : Value} {xs : List Value}, RdV w v xs → xs.length ≤ maxLen := by
    rintro v xs ⟨_, _, e, q1, q2, _⟩; omega
  obtain ⟨fa, fc, rfl⟩ := hf.shape
  obtain ⟨ka, kc, rfl⟩ := hk.shape
  have hfm := big hf
  have hkm := big hk
  obtain ⟨us, hus, hul, hub⟩ := hl
  obtain ⟨la, lc, rfl⟩ := hus.shape
  have hlm := big hus
  rw [List.length_map] at hf hk hfm hkm ⊢
  rw [List.length_map]
  unfold maxLen at hfm hkm hlm
  have HF := hid hf
  have HK := hid hk
  have HU := hid hus
  have HUL := hid hul
  have HUB := hid hub
  have HFB := hid (fun (g : Nat) (hg : (Value.slice fa f.length fc).ownBlock = some g) => hg)
  clear big hf hk hus hul hub
  go_enter Try.func3, Try.ntmps3
  go_upto_if 21 with fail
  go_cut [0] (fun s0 wx => s0 = .slice fa (cut64 f).length fc ∧ wx = w)
  case first =>
    by_cases h64 : (64 : Int) < f.length
    · have hc : (64 : Int) ≤ fc := by
        obtain ⟨_, _, e, q1, _⟩ := HF.out
        injection e with _ _ e3
        rw [List.length_map] at q1; omega
      have e := cut_len f
      rw [Nat.min_eq_right (by omega)] at e
      have HE := hid e
      clear e
      go_wp2_with fail
      go_meet
      exact ⟨by rw [HE.out], rfl⟩
    · have e := cut_len f
      rw [Nat.min_eq_left (by omega)] at e
      have HE := hid e
      clear e
      go_wp2_with fail
      go_meet
      exact ⟨by rw [HE.out], rfl⟩
  case rest =>
    obtain ⟨rfl, rfl⟩ := hcut
    go_upto_if 26 with fail
    go_cut [2] (fun s0 wy => s0 = .slice ka (ks.take 12).length kc ∧ wy = wc)
    case first =>
      by_cases h64 : (12 : Int) < ks.length
      · have hc : (12 : Int) ≤ kc := by
          obtain ⟨_, _, e, q1, _⟩ := HK.out
          injection e with _ _ e3
          rw [List.length_map] at q1; omega
        have HE := hid (show (ks.take 12).length = 12 by simp; omega)
        go_wp2_with fail
        go_meet
        exact ⟨by rw [HE.out], rfl⟩
      · have HE := hid (show (ks.take 12).length = ks.length by simp; omega)
        go_wp2_with fail
        go_meet
        exact ⟨by rw [HE.out], rfl⟩
    case rest =>
      obtain ⟨rfl, rfl⟩ := hcut
      obtain ⟨W0, rfl⟩ : ∃ W0 : World, W0 = wc := ⟨_, rfl⟩
      go_wp2_with fail
      refine (New_any 1 W0 S (HSn.out W0 (Nat.le_refl _))).mono ?_
      rintro e w1 ⟨d, rfl, hd, hn⟩
      have D1 := hid hd
      have N1 := hid hn
      have C1 : Hid (Chg (Mut S pts W0) W0 w1) := hn.mono (fun _ _ e => e.elim)
      have HFC := hid (rd_cut HF.out)
      have HFW := hid (fun (w2 : World) (hc : Chg (Mut S pts W0) W0 w2) => (show Rd w2 (.slice fa (cut64 f).length fc) (cut64 f) from HFC.out.chg hc (fun k _ hlt => HNS.out _ _ HFC.out W0 k hlt)))
      have hfl := cut_le f
      clear hd hn
      go_wp2_with fail
      refine (Write_t D1.out (HSn.out _ C1.out.size) 0 _ (cut64 f) (HFW.out _ C1.out) (fun hne k hk => HNS.out _ _ HFC.out w1 k (rd_lt HFC.out hne hk)) (by decide)).mono ?_
      rintro e w2 ⟨he, hd, hc⟩
      rw [(first_plain (cut64 f) hfl).1] at he
      subst he
      have D2 := hid hd
      have C2 := hid (C1.out.tr hc)
      clear hd hc
      go_wp2_with fail
      refine (Sync_t D2.out).mono ?_
      rintro e w3 ⟨he, hd, hc⟩
      rw [(first_plain (cut64 f) hfl).2] at he hd
      subst he
      have D3 := hid hd
      have C3 := hid (C2.out.tr hc)
      clear hd hc
      have HKT := hid (rdI_take HK.out 12)
      rw [List.length_take] at HKT
      have HKR := hid (fun (w2 : World) (hc : Chg (Mut S pts W0) W0 w2) => (show RdI w2 (.slice ka (min 12 ks.length) kc) (ks.take 12) from by have h := HKT.out.chg hc (fun k _ hlt => HNS.out _ _ HKT.out W0 k hlt); exact h))
      have hone := rd_one w3 (.slice fa (cut64 f).length fc) 22
      go_wp2_with (at_builtin; refine wpl_append (by rfl) _ _ 23 (by rfl) T23 (by rfl) W0.heap.size _ [] (by rfl) (World.ownsRow_nil _ _ _ _) _ (by rfl) [.slice fa (cut64 f).length fc] hone (by intro u hu; rw [List.mem_singleton.1 hu]; rfl) (by simp) (by simp [maxLen]) (Nat.le_trans C3.out.size (by simp)) ?_; intro v8 w4 hown hg; have HO := hid hown; have C4 := hid (grown_mut (C3.out.alloc _) (World.ownsRow_nil _ W0.heap.size 22 1) hg (Nat.le_refl _)); have G4 := hid hg; clear hown hg)
      have D4 := hid ((D3.out.alloc _).new ((Chg.refl _ _).grown G4.out (fun k hk _ => by cases hk)))
      have O4 := hid (OwnS.cons (w0 := W0) HO.out rfl HFC.out)
      clear hone
      go_loopw [8, 45] (fun v j wr => ∃ m : Nat, j = .int .i64 m ∧ m ≤ l.length ∧ m ≤ 10 ∧ DevAt S wr d (tornDev (cut64 f) ((l.take m).map cut64)) ∧ OwnS W0.heap.size W0 wr v (cut64 f :: (l.take m).map cut64) ∧ Chg (Mut S pts W0) W0 wr) (fun _ j _ => us.length - (intOf j).toNat)
      case atStart => exact ⟨0, rfl, by omega, by omega, D4.out, O4.out, C4.out⟩
      case round =>
        obtain ⟨m, rfl, hm, hm10, hd, ho, hc⟩ := hrel
        have DR := hid hd
        have OR := hid ho
        have CR := hid hc
        have HBL := hid (show ∀ b ∈ (l.take m).map cut64, b.length ≤ 64 by intro b hb; obtain ⟨x, _, rfl⟩ := List.mem_map.1 hb; exact cut_le x)
        have HBA := hid (show ∀ b ∈ cut64 f :: (l.take m).map cut64, b.length ≤ 64 by intro b hb; rcases List.mem_cons.1 hb with rfl | hb; exact cut_le f; exact HBL.out b hb)
        have HLN := hid (show (cut64 f :: (l.take m).map cut64).length ≤ 11 by simp; omega)
        clear hd ho hc
        by_cases hlt : m < us.length
        · have hml : m < l.length := by rw [← HUL.out]; exact hlt
          obtain ⟨_, _, hsl, _, _, hcell⟩ := HU.out.chg CR.out (fun k _ hlt => HNS.out _ _ HU.out W0 k hlt)
          injection hsl with e1 e2 e3
          obtain ⟨g1, off1, he, hc1⟩ := hcell m us[m] (List.getElem?_eq_getElem hlt)
          obtain rfl : la = some ⟨g1, off1, none⟩ := e1.trans he
          have hr := HUB.out m us[m] l[m] (List.getElem?_eq_getElem hlt) (List.getElem?_eq_getElem hml)
          obtain ⟨ba, bc, hbs⟩ := hr.shape
          rw [hbs] at hc1 hr
          rw [List.length_map] at hc1 hr
          have hbm : l[m].length ≤ maxLen := by obtain ⟨_, _, e, q1, q2, _⟩ := hr; rw [List.length_map] at q1; omega
          unfold maxLen at hbm
          have HR := hid hr
          have TS := hid (take_snoc hml)
          clear hcell e1 e2 e3 he hr hbs
          by_cases h10 : 10 ≤ m
          · generalize (l.take m).map cut64 = bs at *
            go_wp2_with fail
            refine (Off_t DR.out _ (ks.take 12) (HKR.out _ CR.out) (fun hne k hk => HNS.out _ _ HKT.out wr k (rdI_lt HKT.out hne hk))).mono ?_
            rintro e w5 ⟨rfl, hd, hc⟩
            have D5 := hid hd
            have O5 := hid (OR.out.chg hc (by simp))
            have C5 := hid (CR.out.tr hc)
            clear hd hc
            go_wp2_with fail
            refine (On_t D5.out).mono ?_
            rintro e w6 ⟨rfl, hd, hc⟩
            have D6 := hid hd
            have O6 := hid (O5.out.chg hc (by simp))
            have C6 := hid (C5.out.tr hc)
            have TR := hid (torn_read (cut64 f) hfl bs HBL.out (ks.take 12))
            clear hd hc
            generalize ((tornDev (cut64 f) bs).off (ks.take 12)).on = E at *
            go_wp2_with fail
            refine (Read_t D6.out 0).mono ?_
            rintro e w7 ⟨hg, hd, hn⟩
            rcases hg with ⟨_, r, rfl, ho⟩ | ⟨h0, he⟩
            case inr => exact absurd TR.out.1 h0
            obtain ⟨ra, rc, rfl, hrc, hrm⟩ := owns_shape ho
            have ho : w7.ownsRow w6.heap.size 5 1 (.slice ra 64 rc) 64 ((E.block 0).map B) := ho
            have hrd := hid (show RdV w7 (.slice ra 64 rc) ((E.block 0).map B) from (by have := RdV.of_owns (show w7.ownsRow w6.heap.size 5 1 (.slice ra 64 rc) ((E.block 0).map B).length ((E.block 0).map B) by have h1 := ho.1; rw [List.length_map] at h1 ⊢; rw [show (E.block 0).length = 64 by omega]; exact ho); exact this))
            have hbl : Hid ((E.block 0).length = 64) := by have h1 := ho.1; rw [List.length_map] at h1; exact (by omega : _ = _)
            have O7 := hid (O6.out.new hn)
            have C7 := hid (C6.out.tr (hn.mono fun _ _ e => e.elim))
            have FR := hid TR.out.2
            obtain ⟨vs, hvo, hvl, _, hvr⟩ := O7.out
            obtain ⟨aa, ac, rfl, hac, ham⟩ := owns_shape hvo
            have HV := hid (RdV.of_owns hvo)
            have HVR := hid (fun (i : Nat) (u : Value) (b : List UInt8) h1 h2 => (hvr i u b h1 h2))
            have HVL := hid hvl
            have hvb : vs.length ≤ 11 := by rw [hvl]; exact HLN.out
            generalize E.block 0 = blk at *
            clear ho hd hn hrc hrm hac ham hvo hvr hvl
            go_wp2_with fail
            go_loop [85] (fun k => ∃ i : Nat, i ≤ 64 ∧ k = .int .i64 i) (fun k => 64 - (intOf k).toNat)
            case atStart => exact ⟨0, by omega, rfl⟩
            case round =>
              obtain ⟨i, hi, rfl⟩ := hrel
              by_cases hi64 : i < 64
              · have hib : i < blk.length := by rw [hbl.out]; exact hi64
                obtain ⟨_, _, hsl, _, _, hcell⟩ := hrd.out
                injection hsl with e1 e2 e3
                obtain ⟨g1, off1, he, hc1⟩ := hcell i (B blk[i]) (by rw [List.getElem?_map, List.getElem?_eq_getElem hib]; rfl)
                obtain rfl : ra = some ⟨g1, off1, none⟩ := e1.trans he
                have FA := hid (from_any FR.out hib)
                generalize blk[i] = c at *
                clear hcell e1 e2 e3 he hib
                go_wp2_with fail
                go_loop [15, 92] (fun is k => ∃ q : Nat, q ≤ vs.length ∧ k = .int .i64 q ∧ is = .bool (((cut64 f :: bs).take q).any (fun b => byteAt b i == c))) (fun _ k => vs.length - (intOf k).toNat)
                case atStart => exact ⟨0, by omega, rfl, rfl⟩
                case round =>
                  obtain ⟨q, hq, rfl, rfl⟩ := hrel
                  by_cases hql : q < vs.length
                  · have hqb : q < (cut64 f :: bs).length := by rw [← HVL.out]; exact hql
                    obtain ⟨_, _, hsl, _, _, hcell⟩ := HV.out
                    injection hsl with e1 e2 e3
                    obtain ⟨g2, off2, he, hc2⟩ := hcell q vs[q] (List.getElem?_eq_getElem hql)
                    obtain rfl : aa = some ⟨g2, off2, none⟩ := e1.trans he
                    have hr := HVR.out q vs[q] ((cut64 f :: bs)[q]) (List.getElem?_eq_getElem hql) (List.getElem?_eq_getElem hqb)
                    have hr7 := hid (show Rd w7 vs[q] ((cut64 f :: bs)[q]) from hr.chg C7.out (fun k _ hlt => HNS.out _ _ hr W0 k hlt))
                    have ST := hid (anyTo_step (cut64 f :: bs) i c hqb)
                    obtain ⟨ba, bc, hbs⟩ := hr.shape
                    rw [hbs] at hc2 hr7
                    have hbq : ((cut64 f :: bs)[q]).length ≤ 64 := HBA.out _ (List.getElem_mem hqb)
                    rw [List.length_map] at hc2 hr7
                    generalize (cut64 f :: bs)[q] = b at *
                    generalize ((cut64 f :: bs).take q).any (fun b => byteAt b i == c) = was at *
                    clear hcell e1 e2 e3 he hr hbs
                    by_cases hin : i < b.length
                    · obtain ⟨_, _, hsl, _, _, hcell⟩ := hr7.out
                      injection hsl with e1 e2 e3
                      obtain ⟨g3, off3, he, hc3⟩ := hcell i (B b[i]) (by rw [List.getElem?_map, List.getElem?_eq_getElem hin]; rfl)
                      obtain rfl : ba = some ⟨g3, off3, none⟩ := e1.trans he
                      have hat : byteAt b i = b[i] := by unfold byteAt; rw [List.getD_eq_getElem?_getD, List.getElem?_eq_getElem hin]; rfl
                      rw [hat] at ST
                      generalize b[i] = y at *
                      clear hcell e1 e2 e3 he hat
                      by_cases hyc : y = c
                      · have hq1 : (y == c) = true := by simp [hyc]
                        rw [hq1, Bool.or_true] at ST
                        subst hyc
                        clear hq1
                        cases was
                        all_goals
                          go_wp2_with fail
                          go_round
                          case rel => exact ⟨q + 1, by omega, by go_num, by rw [ST.out]⟩
                          case measure => simp [intOf]; omega
                      · have hq1 : (y == c) = false := by simp [hyc]
                        rw [hq1, Bool.or_false] at ST
                        have hcz : ((y.toNat : Int) == (c.toNat : Int)) = false := by rw [beq_eq_false_iff_ne]; intro e; exact hyc (UInt8.toNat_inj.1 (by omega))
                        clear hyc hq1
                        cases was
                        all_goals
                          go_wp2_with fail
                          go_round
                          case rel => exact ⟨q + 1, by omega, by go_num, by rw [ST.out]⟩
                          case measure => simp [intOf]; omega
                    · have hat : byteAt b i = 0 := by unfold byteAt; rw [List.getD_eq_getElem?_getD, List.getElem?_eq_none (by omega)]; rfl
                      rw [hat] at ST
                      obtain ⟨y, hy⟩ : ∃ y : UInt8, y = 0 := ⟨_, rfl⟩
                      rw [← hy] at ST
                      have hy0 : (y.toNat : Int) = 0 := by rw [hy]; rfl
                      clear hat hy
                      by_cases hyc : y = c
                      · have hq1 : (y == c) = true := by simp [hyc]
                        rw [hq1, Bool.or_true] at ST
                        have hcz : ((0 : Int) == (c.toNat : Int)) = true := by rw [← hyc, hy0]; rfl
                        clear hyc hy0 hq1
                        cases was
                        all_goals
                          go_wp2_with fail
                          go_round
                          case rel => exact ⟨q + 1, by omega, by go_num, by rw [ST.out]⟩
                          case measure => simp [intOf]; omega
                      · have hq1 : (y == c) = false := by simp [hyc]
                        rw [hq1, Bool.or_false] at ST
                        have hcz : ((0 : Int) == (c.toNat : Int)) = false := by rw [beq_eq_false_iff_ne]; intro e; exact hyc (UInt8.toNat_inj.1 (by omega))
                        clear hyc hy0 hq1
                        cases was
                        all_goals
                          go_wp2_with fail
                          go_round
                          case rel => exact ⟨q + 1, by omega, by go_num, by rw [ST.out]⟩
                          case measure => simp [intOf]; omega
                  · obtain rfl : q = vs.length := by omega
                    rw [show (cut64 f :: bs).take vs.length = cut64 f :: bs from by rw [HVL.out, List.take_length], FA.out]
                    go_wp2_with fail
                    go_round
                    case rel => (first | exact ⟨i + 1, by omega, by go_num⟩ | ((repeat apply Exists.intro); exact ⟨⟨i + 1, by omega, by go_num⟩, rfl⟩))
                    case measure => simp [intOf]; omega
              · obtain rfl : i = 64 := by omega
                go_wp2_with fail
                refine (awakeB_t _).mono ?_
                rintro e w8 ⟨rfl, hn⟩
                have HN := hid (C7.out.tr (hn.mono fun _ _ e => e.elim))
                clear hn
                go_wp2_with fail
                go_ret
                exact ⟨rfl, HN.out.below (fun k e => by have := e.1; rw [HS.out] at this; exact this) (Nat.le_refl _)⟩
          · generalize l[m] = b at *
            go_upto_if 54 with fail
            go_cut [10] (fun s wx => s = .slice ba (cut64 b).length bc ∧ wx = wr)
            case first =>
              by_cases h64 : (64 : Int) < b.length
              · have hc : (64 : Int) ≤ bc := by
                  obtain ⟨_, _, e, q1, _⟩ := HR.out
                  injection e with _ _ e3
                  rw [List.length_map] at q1; omega
                have e := cut_len b
                rw [Nat.min_eq_right (by omega)] at e
                have HE := hid e
                clear e
                go_wp2_with fail
                go_meet
                exact ⟨by rw [HE.out], rfl⟩
              · have e := cut_len b
                rw [Nat.min_eq_left (by omega)] at e
                have HE := hid e
                clear e
                go_wp2_with fail
                go_meet
                exact ⟨by rw [HE.out], rfl⟩
            case rest =>
              obtain ⟨rfl, hwr⟩ := hcut
              subst hwr
              have HRC := hid (rd_cut HR.out)
              obtain ⟨vs, hvo, hvl, hv1, hvr⟩ := OR.out
              have HVO := hid hvo
              have HVR := hid (And.intro hvl (And.intro hv1 hvr))
              have hvb : vs.length ≤ 11 := by rw [hvl]; exact HLN.out
              have hone := rd_one wc (.slice ba (cut64 b).length bc) 22
              clear hvo hvl hv1 hvr
              go_wp2_with (at_builtin; go_loud (refine wpl_append (by rfl) _ _ 23 (by rfl) T23 (by rfl) W0.heap.size _ vs (by rfl) (HVO.out.alloc _) _ (by rfl) [.slice ba (cut64 b).length bc] hone (by intro u hu; rw [List.mem_singleton.1 hu]; rfl) (by simp; omega) (by simp [maxLen]; omega) (Nat.le_trans CR.out.size (by simp)) ?_); intro v9 w9 hown hg; have HO9 := hid hown; have C9 := hid (grown_mut (CR.out.alloc _) (HVO.out.alloc _) hg (Nat.le_refl _)); have G9 := hid hg; clear hown hg)
              have O9 := hid (OwnS.one HVR.out HO9.out rfl HRC.out)
              have D9 := hid ((DR.out.alloc _).grown (HVO.out.alloc _) G9.out (by decide))
              have R9 := hid (show Rd w9 (.slice ba (cut64 b).length bc) (cut64 b) from HRC.out.chg C9.out (fun k _ hlt => HNS.out _ _ HRC.out _ k hlt))
              refine (Write_t D9.out (HSn.out _ C9.out.size) 0 _ (cut64 b) R9.out (fun hne k hk => HNS.out _ _ HRC.out w9 k (rd_lt HRC.out hne hk)) (by simp [tornDev]; omega)).mono ?_
              rintro e w10 ⟨he, hd, hc⟩
              rw [write_plain _ _ _ (cut_le b)] at he hd
              subst he
              have D10 := hid hd
              have O10 := hid (O9.out.chg hc (by simp))
              have C10 := hid (C9.out.tr hc)
              clear hd hc hone
              go_wp2_with fail
              go_roundw
              case rel => exact ⟨m + 1, by go_num, by omega, by omega, by rw [TS.out, List.map_append]; exact D10.out, by rw [TS.out, List.map_append]; exact O10.out, C10.out⟩
              case measure => simp [intOf]; omega
        · obtain rfl : m = us.length := by have := HUL.out; omega
          generalize (l.take us.length).map cut64 = bs at *
          go_wp2_with fail
          refine (Off_t DR.out _ (ks.take 12) (HKR.out _ CR.out) (fun hne k hk => HNS.out _ _ HKT.out wr k (rdI_lt HKT.out hne hk))).mono ?_
          rintro e w5 ⟨rfl, hd, hc⟩
          have D5 := hid hd
          have O5 := hid (OR.out.chg hc (by simp))
          have C5 := hid (CR.out.tr hc)
          clear hd hc
          go_wp2_with fail
          refine (On_t D5.out).mono ?_
          rintro e w6 ⟨rfl, hd, hc⟩
          have D6 := hid hd
          have O6 := hid (O5.out.chg hc (by simp))
          have C6 := hid (C5.out.tr hc)
          have TR := hid (torn_read (cut64 f) hfl bs HBL.out (ks.take 12))
          clear hd hc
          generalize ((tornDev (cut64 f) bs).off (ks.take 12)).on = E at *
          go_wp2_with fail
          refine (Read_t D6.out 0).mono ?_
          rintro e w7 ⟨hg, hd, hn⟩
          rcases hg with ⟨_, r, rfl, ho⟩ | ⟨h0, he⟩
          case inr => exact absurd TR.out.1 h0
          obtain ⟨ra, rc, rfl, hrc, hrm⟩ := owns_shape ho
          have ho : w7.ownsRow w6.heap.size 5 1 (.slice ra 64 rc) 64 ((E.block 0).map B) := ho
          have hrd := hid (show RdV w7 (.slice ra 64 rc) ((E.block 0).map B) from (by have := RdV.of_owns (show w7.ownsRow w6.heap.size 5 1 (.slice ra 64 rc) ((E.block 0).map B).length ((E.block 0).map B) by have h1 := ho.1; rw [List.length_map] at h1 ⊢; rw [show (E.block 0).length = 64 by omega]; exact ho); exact this))
          have hbl : Hid ((E.block 0).length = 64) := by have h1 := ho.1; rw [List.length_map] at h1; exact (by omega : _ = _)
          have O7 := hid (O6.out.new hn)
          have C7 := hid (C6.out.tr (hn.mono fun _ _ e => e.elim))
          have FR := hid TR.out.2
          obtain ⟨vs, hvo, hvl, _, hvr⟩ := O7.out
          obtain ⟨aa, ac, rfl, hac, ham⟩ := owns_shape hvo
          have HV := hid (RdV.of_owns hvo)
          have HVR := hid (fun (i : Nat) (u : Value) (b : List UInt8) h1 h2 => (hvr i u b h1 h2))
          have HVL := hid hvl
          have hvb : vs.length ≤ 11 := by rw [hvl]; exact HLN.out
          generalize E.block 0 = blk at *
          clear ho hd hn hrc hrm hac ham hvo hvr hvl
          go_wp2_with fail
          go_loop [85] (fun k => ∃ i : Nat, i ≤ 64 ∧ k = .int .i64 i) (fun k => 64 - (intOf k).toNat)
          case atStart => exact ⟨0, by omega, rfl⟩
          case round =>
            obtain ⟨i, hi, rfl⟩ := hrel
            by_cases hi64 : i < 64
            · have hib : i < blk.length := by rw [hbl.out]; exact hi64
              obtain ⟨_, _, hsl, _, _, hcell⟩ := hrd.out
              injection hsl with e1 e2 e3
              obtain ⟨g1, off1, he, hc1⟩ := hcell i (B blk[i]) (by rw [List.getElem?_map, List.getElem?_eq_getElem hib]; rfl)
              obtain rfl : ra = some ⟨g1, off1, none⟩ := e1.trans he
              have FA := hid (from_any FR.out hib)
              generalize blk[i] = c at *
              clear hcell e1 e2 e3 he hib
              go_wp2_with fail
              go_loop [15, 92] (fun is k => ∃ q : Nat, q ≤ vs.length ∧ k = .int .i64 q ∧ is = .bool (((cut64 f :: bs).take q).any (fun b => byteAt b i == c))) (fun _ k => vs.length - (intOf k).toNat)
              case atStart => exact ⟨0, by omega, rfl, rfl⟩
              case round =>
                obtain ⟨q, hq, rfl, rfl⟩ := hrel
                by_cases hql : q < vs.length
                · have hqb : q < (cut64 f :: bs).length := by rw [← HVL.out]; exact hql
                  obtain ⟨_, _, hsl, _, _, hcell⟩ := HV.out
                  injection hsl with e1 e2 e3
                  obtain ⟨g2, off2, he, hc2⟩ := hcell q vs[q] (List.getElem?_eq_getElem hql)
                  obtain rfl : aa = some ⟨g2, off2, none⟩ := e1.trans he
                  have hr := HVR.out q vs[q] ((cut64 f :: bs)[q]) (List.getElem?_eq_getElem hql) (List.getElem?_eq_getElem hqb)
                  have hr7 := hid (show Rd w7 vs[q] ((cut64 f :: bs)[q]) from hr.chg C7.out (fun k _ hlt => HNS.out _ _ hr W0 k hlt))
                  have ST := hid (anyTo_step (cut64 f :: bs) i c hqb)
                  obtain ⟨ba, bc, hbs⟩ := hr.shape
                  rw [hbs] at hc2 hr7
                  have hbq : ((cut64 f :: bs)[q]).length ≤ 64 := HBA.out _ (List.getElem_mem hqb)
                  rw [List.length_map] at hc2 hr7
                  generalize (cut64 f :: bs)[q] = b at *
                  generalize ((cut64 f :: bs).take q).any (fun b => byteAt b i == c) = was at *
                  clear hcell e1 e2 e3 he hr hbs
                  by_cases hin : i < b.length
                  · obtain ⟨_, _, hsl, _, _, hcell⟩ := hr7.out
                    injection hsl with e1 e2 e3
                    obtain ⟨g3, off3, he, hc3⟩ := hcell i (B b[i]) (by rw [List.getElem?_map, List.getElem?_eq_getElem hin]; rfl)
                    obtain rfl : ba = some ⟨g3, off3, none⟩ := e1.trans he
                    have hat : byteAt b i = b[i] := by unfold byteAt; rw [List.getD_eq_getElem?_getD, List.getElem?_eq_getElem hin]; rfl
                    rw [hat] at ST
                    generalize b[i] = y at *
                    clear hcell e1 e2 e3 he hat
                    by_cases hyc : y = c
                    · have hq1 : (y == c) = true := by simp [hyc]
                      rw [hq1, Bool.or_true] at ST
                      subst hyc
                      clear hq1
                      cases was
                      all_goals
                        go_wp2_with fail
                        go_round
                        case rel => exact ⟨q + 1, by omega, by go_num, by rw [ST.out]⟩
                        case measure => simp [intOf]; omega
                    · have hq1 : (y == c) = false := by simp [hyc]
                      rw [hq1, Bool.or_false] at ST
                      have hcz : ((y.toNat : Int) == (c.toNat : Int)) = false := by rw [beq_eq_false_iff_ne]; intro e; exact hyc (UInt8.toNat_inj.1 (by omega))
                      clear hyc hq1
                      cases was
                      all_goals
                        go_wp2_with fail
                        go_round
                        case rel => exact ⟨q + 1, by omega, by go_num, by rw [ST.out]⟩
                        case measure => simp [intOf]; omega
                  · have hat : byteAt b i = 0 := by unfold byteAt; rw [List.getD_eq_getElem?_getD, List.getElem?_eq_none (by omega)]; rfl
                    rw [hat] at ST
                    obtain ⟨y, hy⟩ : ∃ y : UInt8, y = 0 := ⟨_, rfl⟩
                    rw [← hy] at ST
                    have hy0 : (y.toNat : Int) = 0 := by rw [hy]; rfl
                    clear hat hy
                    by_cases hyc : y = c
                    · have hq1 : (y == c) = true := by simp [hyc]
                      rw [hq1, Bool.or_true] at ST
                      have hcz : ((0 : Int) == (c.toNat : Int)) = true := by rw [← hyc, hy0]; rfl
                      clear hyc hy0 hq1
                      cases was
                      all_goals
                        go_wp2_with fail
                        go_round
                        case rel => exact ⟨q + 1, by omega, by go_num, by rw [ST.out]⟩
                        case measure => simp [intOf]; omega
                    · have hq1 : (y == c) = false := by simp [hyc]
                      rw [hq1, Bool.or_false] at ST
                      have hcz : ((0 : Int) == (c.toNat : Int)) = false := by rw [beq_eq_false_iff_ne]; intro e; exact hyc (UInt8.toNat_inj.1 (by omega))
                      clear hyc hy0 hq1
                      cases was
                      all_goals
                        go_wp2_with fail
                        go_round
                        case rel => exact ⟨q + 1, by omega, by go_num, by rw [ST.out]⟩
                        case measure => simp [intOf]; omega
                · obtain rfl : q = vs.length := by omega
                  rw [show (cut64 f :: bs).take vs.length = cut64 f :: bs from by rw [HVL.out, List.take_length], FA.out]
                  go_wp2_with fail
                  go_round
                  case rel => (first | exact ⟨i + 1, by omega, by go_num⟩ | ((repeat apply Exists.intro); exact ⟨⟨i + 1, by omega, by go_num⟩, rfl⟩))
                  case measure => simp [intOf]; omega
            · obtain rfl : i = 64 := by omega
              go_wp2_with fail
              refine (awakeB_t _).mono ?_
              rintro e w8 ⟨rfl, hn⟩
              have HN := hid (C7.out.tr (hn.mono fun _ _ e => e.elim))
              clear hn
              go_wp2_with fail
              go_ret
              exact ⟨rfl, HN.out.below (fun k e => by have := e.1; rw [HS.out] at this; exact this) (Nat.le_refl _)⟩
end Go.Proofs.Ytjlmbmamkhneiaa
