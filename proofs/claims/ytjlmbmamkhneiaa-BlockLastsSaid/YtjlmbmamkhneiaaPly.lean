/- The walk of the law BlockPlays. -/
import Derived.Test.YtjlmbmamkhneiaaAop
namespace Go.Proofs.Ytjlmbmamkhneiaa
open Go Go.RowKit
set_option linter.unusedVariables false
def RdActsV (w : World) (v : Value) (_ : Unit) : Prop := ∃ a n c, v = .slice a n c ∧ RdActs w a n c
theorem acts_of' {H : Type} {enc : TypeId × Value → H} {w : World} {base : Nat} {held : Bool} {a : Option Addr} {len cap : Nat} {d : DataW H} {ps : List MemPlace} (h : DataW.Trod enc Try.prog w base (fun _ => true) held 35 (.slice a len cap) d ps) : ∃ l : Unit, RdActsV w (.slice a len cap) l := ⟨(), a, len, cap, rfl, acts_of h⟩
set_option maxRecDepth 100000 in
set_option maxHeartbeats 16000000 in
theorem blockPlays_t (w : World) (n : Int) (a : Option Addr) (len c : Nat) (h : RdActs w a len c) :
    Calls Try.prog 6 #[I n, .slice a len c] w fun e w' => e = .returned (.bool true) ∧ Below w.heap.size w w' := by
  obtain ⟨S, hS⟩ : ∃ S : Nat → Prop, S = fun k => w.heap.size ≤ k := ⟨_, rfl⟩
  have HS := hid hS
  have HSn := hid (show ∀ w1 : World, w.heap.size ≤ w1.heap.size → ∀ k, w1.heap.size ≤ k → S k from fun w1 h1 k hk => by rw [hS]; exact Nat.le_trans h1 hk)
  have HNS := hid (show ∀ k, k < w.heap.size → ¬ S k from fun k hk e => by rw [hS] at e; omega)
  obtain ⟨hlc, hcm, hacts⟩ := h
  have HA := hid hacts
  unfold maxLen at hcm
  clear hS hacts
  go_enter Try.func6, Try.ntmps6
  go_wp2_with fail
  refine (New_any _ _ S (HSn.out _ (Nat.le_refl _))).mono ?_
  rintro e w1 ⟨d, rfl, hd, hn1⟩
  have D1 := hid hd
  have C1 := hid (show Chg S w w1 from hn1.mono (fun _ _ e => e.elim))
  clear hd hn1
  go_wp2_with fail
  refine (New_r _ _ S (HSn.out _ C1.out.size)).mono ?_
  rintro e w2 ⟨r, rfl, _, hr, hn2⟩
  have D2 := hid (D1.out.new hn2)
  have R2 := hid hr
  have C2 := hid (C1.out.trans hn2 (fun _ _ e => e.elim))
  clear hr hn2
  have P2 := hid (show (DevS.new (n.tmod 9)).pend.length = 0 from rfl)
  generalize DevS.new (n.tmod 9) = D0 at *
  go_wp2_with fail
  refine (Same_b D2.out R2.out).mono ?_
  rintro e w3 ⟨rfl, hn3⟩
  have D3 := hid (D2.out.new hn3)
  have R3 := hid (R2.out.new hn3)
  have C3 := hid (C2.out.trans hn3 (fun _ _ e => e.elim))
  clear hn3
  go_wp2_with fail
  go_loopw [21, 7] (fun i ok wr => ∃ m : Nat, i = .int .i64 m ∧ m ≤ len ∧ ok = .bool true ∧ Chg S w wr ∧ ∃ D, DevAt S wr d D ∧ RefAt S wr r D ∧ D.pend.length ≤ m ∧ m ≤ 40) (fun i _ _ => len - (intOf i).toNat)
  case atStart => exact ⟨0, rfl, by omega, rfl, C3.out, D0, D3.out, R3.out, by rw [P2.out]; exact Nat.le_refl _, by omega⟩
  case round =>
    obtain ⟨W0, rfl⟩ : ∃ W0 : World, W0 = wr := ⟨_, rfl⟩
    obtain ⟨m, rfl, hm, rfl, hc, D, hd, hr, hp, hm40⟩ := hrel
    have CR := hid hc
    have DR := hid hd
    have RR := hid hr
    clear hc hd hr
    by_cases hlt : m < len
    · obtain ⟨g, off, z0, z1, z2, vb, vk, b, ks, rfl, e0, e1, e2, e3, e4, hz2, hb, hk⟩ := HA.out m hlt
      have hg : g < w.heap.size := lt_of_cell e0
      have k0 := CR.out.cell e0 (HNS.out g hg)
      have k1 := CR.out.cell e1 (HNS.out g hg)
      have k2 := CR.out.cell e2 (HNS.out g hg)
      have k3 := CR.out.cell e3 (HNS.out g hg)
      have k4 := CR.out.cell e4 (HNS.out g hg)
      have HB := hid hb
      have HK := hid hk
      obtain ⟨ba, bc, rfl⟩ := hb.shape
      obtain ⟨ka, kc, rfl⟩ := hk.shape
      rw [List.length_map] at k3 k4 HB HK
      clear e0 e1 e2 e3 e4 hb hk
      by_cases h40 : m < 40
      · go_wp2_with fail
        have A : New W0 (W0.alloc (.cells #[I z0, I z1, I z2, .slice ba b.length bc, .slice ka ks.length kc] 39)) := (Chg.refl _ W0).alloc _
        have CA : Chg S w (W0.alloc (.cells #[I z0, I z1, I z2, .slice ba b.length bc, .slice ka ks.length kc] 39)) := CR.out.alloc _
        refine (step_b (DR.out.new A) (RR.out.new A) (HSn.out _ CA.size) (by omega) z0 z1 z2 hz2 _ _ b ks (rd_chg HB.out CA (fun hne k hk => HNS.out k (rd_lt HB.out hne hk))) (rdI_chg HK.out CA (fun hne k hk => HNS.out k (rdI_lt HK.out hne hk))) (fun hne k hk => HNS.out k (rd_lt HB.out hne hk)) (fun hne k hk => HNS.out k (rdI_lt HK.out hne hk))).mono ?_
        rintro e w4 ⟨rfl, hc, D', hd, hr, hp'⟩
        have C4 := hid (CA.trans hc (fun _ _ e => e))
        have D4 := hid hd
        have R4 := hid hr
        clear hc hd hr A CA k0 k1 k2 k3 k4
        go_wp2_with fail
        refine (Same_b D4.out R4.out).mono ?_
        rintro e w5 ⟨rfl, hn⟩
        have C5 := hid (C4.out.trans hn (fun _ _ e => e.elim))
        have D5 := hid (D4.out.new hn)
        have R5 := hid (R4.out.new hn)
        clear hn
        go_wp2_with fail
        go_roundw
        case rel => exact ⟨m + 1, by go_num, by omega, rfl, C5.out, D', D5.out, R5.out, by omega, by omega⟩
        case measure => simp [intOf]; omega
      · obtain rfl : m = 40 := by omega
        go_wp2_with fail
        refine (awakeB_t _).mono ?_
        rintro e w5 ⟨rfl, hn⟩
        have C5 := hid ((CR.out.alloc _).trans hn (fun _ _ e => e.elim))
        clear hn
        go_wp2_with fail
        go_ret
        exact ⟨rfl, C5.out.below (fun k e => by rw [HS.out] at e; exact e) (Nat.le_refl _)⟩
    · go_wp2_with fail
      refine (awakeB_t _).mono ?_
      rintro e w5 ⟨rfl, hn⟩
      have C5 := hid (CR.out.trans hn (fun _ _ e => e.elim))
      clear hn
      go_wp2_with fail
      go_ret
      exact ⟨rfl, C5.out.below (fun k e => by rw [HS.out] at e; exact e) (Nat.le_refl _)⟩
end Go.Proofs.Ytjlmbmamkhneiaa
