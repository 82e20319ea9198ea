/- The walk of the law BlockArm. -/
import Derived.Test.YtjlmbmamkhneiaaArm
import Derived.Outline
namespace Go.Proofs.Ytjlmbmamkhneiaa
open Go Go.RowKit
set_option linter.unusedVariables false
abbrev Bo (b : Bool) : Value := .bool b
set_option maxRecDepth 100000 in
set_option maxHeartbeats 8000000 in
theorem blockArm_t (a0 : Int) (hb0 : -9223372036854775808 ≤ a0) (hb1 : a0 ≤ 9223372036854775807) (v : Value) (l : List Bool) (w : World) (hl : RdV w v (l.map Bo)) :
    Calls Try.prog 5 #[I a0, v] w fun e w' => e = .returned (.bool true) ∧ Below w.heap.size w w' := by
  obtain ⟨S, hS⟩ : ∃ S : Nat → Prop, S = fun k => w.heap.size ≤ k := ⟨_, rfl⟩
  have HS := hid hS
  clear hS
  have HSn : Hid (∀ w1 : World, w.heap.size ≤ w1.heap.size → ∀ k, w1.heap.size ≤ k → S k) := fun w1 h1 k hk => by rw [HS.out]; exact Nat.le_trans h1 hk
  have kc := fun (w : World) (C : Array Value) (n c : Nat) => Lib.run_convert_bytes_const (P := Try.prog) w 22 5 C n c Try.underlying22 Try.underlying5
  obtain ⟨va, vc, rfl⟩ := hl.shape
  have hmx : l.length ≤ maxLen := by
    obtain ⟨_, _, e, q1, q2, _⟩ := hl
    rw [List.length_map] at q1; omega
  unfold maxLen at hmx
  rw [List.length_map] at hl ⊢
  have HL := hid hl
  clear hl
  obtain ⟨a, ha⟩ : ∃ a, a0.tmod 20 = a := ⟨_, rfl⟩
  have hr1 : a ≤ 19 := by rw [← ha]; have := Int.tmod_lt_of_pos a0 (show (0 : Int) < 20 by omega); omega
  go_enter Try.func5, Try.ntmps5
  go_wp2_with fail
  refine (New_any 2 w S (HSn.out w (Nat.le_refl _))).mono ?_
  rintro e w1 ⟨d, rfl, hd, hn⟩
  have D1 := hid hd
  have C1 : Hid (Chg (Mut S pts w) w w1) := hn.mono (fun _ _ e => e.elim)
  clear hd hn
  go_wp2_with fail
  refine (Arm_t (D1.out.alloc _) a (by omega) _ [64] (rdI_new1 w1 64) (by decide)).mono ?_
  rintro e w2 ⟨rfl, hd, hc⟩
  have D2 := hid hd
  have C2 := hid ((C1.out.alloc _).tr hc)
  have F2 := hid (arm_fused a)
  clear hd hc
  generalize (DevS.new 2).arm a [64] = A at *
  go_wp2_with fail
  go_loopw [21] (fun j wr => ∃ (m : Nat) (D : DevS), j = .int .i64 m ∧ m ≤ l.length ∧ m ≤ 30 ∧ DevAt S wr d D ∧ Fused a (m + cnt l m) D ∧ Chg (Mut S pts w) w wr) (fun j _ => l.length - (intOf j).toNat)
  case atStart => exact ⟨0, A, rfl, by omega, by omega, D2.out, F2.out, C2.out⟩
  case round =>
    obtain ⟨m, D, rfl, hm, hm30, hd, hf, hc⟩ := hrel
    have D3 := hid hd
    have F3 := hid hf
    have C3 := hid hc
    have HR0 := hid (HL.out.chg C3.out (fun k hk hlt e => by have := e.1; rw [HS.out] at this; omega))
    clear hd hf hc ha
    by_cases hlt : m < l.length
    · obtain ⟨_, _, hsl, _, _, hcell⟩ := HR0.out
      injection hsl with e1 e2 e3
      subst e1 e3
      obtain ⟨g1, off1, rfl, hcx⟩ := hcell m (Bo l[m]) (by rw [List.getElem?_map, List.getElem?_eq_getElem hlt]; rfl)
      clear hcell e2
      have HCS := hid (cnt_step hlt)
      have hcm := cnt_le l m
      by_cases h30 : 30 ≤ m
      · go_wp2_with fail
        refine (awakeB_t _).mono ?_
        rintro e w4 ⟨rfl, hn⟩
        have HN := hid (C3.out.tr (hn.mono fun _ _ e => e.elim))
        clear hn
        go_wp2_with fail
        go_ret
        exact ⟨rfl, HN.out.below (fun k e => by have := e.1; rw [HS.out] at this; exact this) (Nat.le_refl _)⟩
      · have FW := hid (fun (i : Int) (hi : 0 ≤ i ∧ i < 2) => write_fused F3.out i hi [120] (by decide))
        have hfew := hid (F3.out.few)
        cases hs : l[m]
        · rw [hs] at hcx HCS
          clear hs
          go_wp2_with fail
          refine (Write_t (D3.out.alloc _) (HSn.out _ (Nat.le_trans C3.out.size (by simp))) _ _ [120] (rdB_new wr [120] 1 rfl (by omega) (1, 2)) (fun _ k => new_not (by decide)) (by have := hfew.out; omega)).mono ?_
          rintro e w3 ⟨rfl, hd, hc⟩
          obtain ⟨f1, f2⟩ := FW.out ((m : Int) % 2) (by omega)
          rw [f2]
          generalize (D.write ((m : Int) % 2) [120]).1 = E at *
          have DD := hid hd
          have CF := hid ((C3.out.alloc _).tr hc)
          have FD : Hid (Fused a (m + cnt l (m + 1) + 1) E) := by rw [HCS.out]; exact f1
          obtain ⟨z, hz⟩ : ∃ z, told a (m + cnt l m + 1) = z := ⟨_, rfl⟩
          rw [hz]
          have HZV : Hid (z = told a (m + cnt l (m + 1) + 1)) := by rw [HCS.out, ← hz]; rfl
          clear hd hc f1 f2 hz hcx
          have HR := hid (HL.out.chg CF.out (fun k hk hlt e => by have := e.1; rw [HS.out] at this; omega))
          have hcl := cnt_le l m
          clear hcl
          go_wp2_with fail
          go_loop [9, 10] (fun n k => ∃ q : Nat, q ≤ m + 1 ∧ k = .int .i64 q ∧ n = .int .i64 ((m + cnt l q : Nat) : Int)) (fun _ k => m + 1 - (intOf k).toNat)
          case atStart => exact ⟨0, by omega, rfl, by simp [cnt]⟩
          case round =>
            obtain ⟨q, hq, rfl, rfl⟩ := hrel
            have hcq := cnt_le l q
            by_cases hqm : q ≤ m
            · have hql : q < l.length := by omega
              obtain ⟨_, _, hsl, _, _, hcell⟩ := HR.out
              injection hsl with e1 e2 e3
              obtain ⟨g2, off2, he, hcq2⟩ := hcell q (Bo l[q]) (by rw [List.getElem?_map, List.getElem?_eq_getElem hql]; rfl)
              obtain ⟨rfl, rfl⟩ : g1 = g2 ∧ off1 = off2 := by simpa using e1.trans he
              have HCS := hid (cnt_step hql)
              clear hcell e1 e2 e3 he
              cases hb : l[q]
              · rw [hb] at hcq2 HCS
                clear hb
                go_wp2_with fail
                go_round
                case rel => exact ⟨q + 1, by omega, by go_num, by rw [HCS.out]; rfl⟩
                case measure => simp [intOf]; omega
              · rw [hb] at hcq2 HCS
                clear hb
                go_wp2_with fail
                go_round
                case rel => exact ⟨q + 1, by omega, by go_num, by rw [HCS.out]; go_num⟩
                case measure => simp [intOf]; omega
            · obtain rfl : q = m + 1 := by omega
              clear hq hqm
              have HZ := hid FD.out
              have hdn := hid (down_told FD.out)
              by_cases hwant : 0 < a ∧ a ≤ ((m + cnt l (m + 1) + 1 : Nat) : Int)
              · have ht : told a (m + cnt l (m + 1) + 1) = 9 := by unfold told; rw [if_pos hwant]
                rw [ht] at hdn
                have hz9 : z = 9 := by rw [HZV.out, ht]
                obtain ⟨w0, w1'⟩ := hwant
                have w2' : a ≤ (m : Int) + (cnt l (m + 1) : Nat) + 1 := by omega
                subst hz9
                go_wp2_with fail
                refine (Down_t DD.out).mono ?_
                rintro e w' ⟨rfl, rfl⟩
                rw [hdn.out]
                go_wp2_with fail
                refine ⟨⟨m + 1, E, by go_num, by omega, by omega, DD.out, ?_, CF.out⟩, by simp [intOf]; omega⟩
                rw [show m + 1 + cnt l (m + 1) = m + cnt l (m + 1) + 1 by omega]; exact HZ.out
              · have ht : told a (m + cnt l (m + 1) + 1) = 0 := by unfold told; rw [if_neg hwant]
                rw [ht] at hdn
                have hz0 : z = 0 := by rw [HZV.out, ht]
                subst hz0
                by_cases hpos : 0 < a
                · have w2' : (m : Int) + (cnt l (m + 1) : Nat) + 1 < a := by omega
                  clear hwant
                  go_wp2_with fail
                  refine (Down_t DD.out).mono ?_
                  rintro e w' ⟨rfl, rfl⟩
                  rw [hdn.out]
                  go_wp2_with fail
                  refine ⟨⟨m + 1, E, by go_num, by omega, by omega, DD.out, ?_, CF.out⟩, by simp [intOf]; omega⟩
                  rw [show m + 1 + cnt l (m + 1) = m + cnt l (m + 1) + 1 by omega]; exact HZ.out
                · clear hwant
                  go_wp2_with fail
                  refine (Down_t DD.out).mono ?_
                  rintro e w' ⟨rfl, rfl⟩
                  rw [hdn.out]
                  go_wp2_with fail
                  refine ⟨⟨m + 1, E, by go_num, by omega, by omega, DD.out, ?_, CF.out⟩, by simp [intOf]; omega⟩
                  rw [show m + 1 + cnt l (m + 1) = m + cnt l (m + 1) + 1 by omega]; exact HZ.out
        · rw [hs] at hcx HCS
          clear hs
          go_wp2_with fail
          refine (Write_t (D3.out.alloc _) (HSn.out _ (Nat.le_trans C3.out.size (by simp))) _ _ [120] (rdB_new wr [120] 1 rfl (by omega) (1, 2)) (fun _ k => new_not (by decide)) (by have := hfew.out; omega)).mono ?_
          rintro e w3 ⟨rfl, hd, hc⟩
          obtain ⟨f1, f2⟩ := FW.out ((m : Int) % 2) (by omega)
          rw [f2]
          generalize (D.write ((m : Int) % 2) [120]).1 = E0 at *
          have DD0 := hid hd
          have CF0 := hid ((C3.out.alloc _).tr hc)
          have FD0 := hid (sync_fused f1)
          generalize told a (m + cnt l m + 1) = z0 at *
          clear hd hc f1 f2 hcx
          go_wp2_with fail
          refine (Sync_t DD0.out).mono ?_
          rintro e w4 ⟨rfl, hd, hc⟩
          obtain ⟨f1, f2⟩ := FD0.out
          rw [f2]
          generalize E0.sync.1 = E at *
          have DD := hid hd
          have CF := hid (CF0.out.tr hc)
          have FD : Hid (Fused a (m + cnt l (m + 1) + 1) E) := by rw [HCS.out]; exact f1
          obtain ⟨z, hz⟩ : ∃ z, told a (m + cnt l m + 1 + 1) = z := ⟨_, rfl⟩
          rw [hz]
          have HZV : Hid (z = told a (m + cnt l (m + 1) + 1)) := by rw [HCS.out, ← hz]; rfl
          clear hd hc f1 f2 hz
          have HR := hid (HL.out.chg CF.out (fun k hk hlt e => by have := e.1; rw [HS.out] at this; omega))
          have hcl := cnt_le l m
          clear hcl
          go_wp2_with fail
          go_loop [9, 10] (fun n k => ∃ q : Nat, q ≤ m + 1 ∧ k = .int .i64 q ∧ n = .int .i64 ((m + cnt l q : Nat) : Int)) (fun _ k => m + 1 - (intOf k).toNat)
          case atStart => exact ⟨0, by omega, rfl, by simp [cnt]⟩
          case round =>
            obtain ⟨q, hq, rfl, rfl⟩ := hrel
            have hcq := cnt_le l q
            by_cases hqm : q ≤ m
            · have hql : q < l.length := by omega
              obtain ⟨_, _, hsl, _, _, hcell⟩ := HR.out
              injection hsl with e1 e2 e3
              obtain ⟨g2, off2, he, hcq2⟩ := hcell q (Bo l[q]) (by rw [List.getElem?_map, List.getElem?_eq_getElem hql]; rfl)
              obtain ⟨rfl, rfl⟩ : g1 = g2 ∧ off1 = off2 := by simpa using e1.trans he
              have HCS := hid (cnt_step hql)
              clear hcell e1 e2 e3 he
              cases hb : l[q]
              · rw [hb] at hcq2 HCS
                clear hb
                go_wp2_with fail
                go_round
                case rel => exact ⟨q + 1, by omega, by go_num, by rw [HCS.out]; rfl⟩
                case measure => simp [intOf]; omega
              · rw [hb] at hcq2 HCS
                clear hb
                go_wp2_with fail
                go_round
                case rel => exact ⟨q + 1, by omega, by go_num, by rw [HCS.out]; go_num⟩
                case measure => simp [intOf]; omega
            · obtain rfl : q = m + 1 := by omega
              clear hq hqm
              have HZ := hid FD.out
              have hdn := hid (down_told FD.out)
              by_cases hwant : 0 < a ∧ a ≤ ((m + cnt l (m + 1) + 1 : Nat) : Int)
              · have ht : told a (m + cnt l (m + 1) + 1) = 9 := by unfold told; rw [if_pos hwant]
                rw [ht] at hdn
                have hz9 : z = 9 := by rw [HZV.out, ht]
                obtain ⟨w0, w1'⟩ := hwant
                have w2' : a ≤ (m : Int) + (cnt l (m + 1) : Nat) + 1 := by omega
                subst hz9
                go_wp2_with fail
                refine (Down_t DD.out).mono ?_
                rintro e w' ⟨rfl, rfl⟩
                rw [hdn.out]
                go_wp2_with fail
                refine ⟨⟨m + 1, E, by go_num, by omega, by omega, DD.out, ?_, CF.out⟩, by simp [intOf]; omega⟩
                rw [show m + 1 + cnt l (m + 1) = m + cnt l (m + 1) + 1 by omega]; exact HZ.out
              · have ht : told a (m + cnt l (m + 1) + 1) = 0 := by unfold told; rw [if_neg hwant]
                rw [ht] at hdn
                have hz0 : z = 0 := by rw [HZV.out, ht]
                subst hz0
                by_cases hpos : 0 < a
                · have w2' : (m : Int) + (cnt l (m + 1) : Nat) + 1 < a := by omega
                  clear hwant
                  go_wp2_with fail
                  refine (Down_t DD.out).mono ?_
                  rintro e w' ⟨rfl, rfl⟩
                  rw [hdn.out]
                  go_wp2_with fail
                  refine ⟨⟨m + 1, E, by go_num, by omega, by omega, DD.out, ?_, CF.out⟩, by simp [intOf]; omega⟩
                  rw [show m + 1 + cnt l (m + 1) = m + cnt l (m + 1) + 1 by omega]; exact HZ.out
                · clear hwant
                  go_wp2_with fail
                  refine (Down_t DD.out).mono ?_
                  rintro e w' ⟨rfl, rfl⟩
                  rw [hdn.out]
                  go_wp2_with fail
                  refine ⟨⟨m + 1, E, by go_num, by omega, by omega, DD.out, ?_, CF.out⟩, by simp [intOf]; omega⟩
                  rw [show m + 1 + cnt l (m + 1) = m + cnt l (m + 1) + 1 by omega]; exact HZ.out
    · obtain rfl : m = l.length := by omega
      go_wp2_with fail
      refine (awakeB_t _).mono ?_
      rintro e w4 ⟨rfl, hn⟩
      have HN := hid (C3.out.tr (hn.mono fun _ _ e => e.elim))
      clear hn
      go_wp2_with fail
      go_ret
      exact ⟨rfl, HN.out.below (fun k e => by have := e.1; rw [HS.out] at this; exact this) (Nat.le_refl _)⟩
end Go.Proofs.Ytjlmbmamkhneiaa
