/- The walk of the law HubPlays. -/
import Derived.Test.YtjlmbmamkhneiaaHst2
namespace Go.Proofs.Ytjlmbmamkhneiaa
open Go Go.RowKit
set_option linter.unusedVariables false
/-- Both hubs between two calls, and the law's box of the document's one. -/
structure HP (S : Nat → Prop) (w0 w : World) (h b : Nat) (H : HubS) (v : Value) : Prop where
  hub : ∃ hv l, HubAt w h hv l H ∧ ∀ k, HubB h hv l k → S k
  ref : ∃ vs, RHub w v vs H.taps
  box : w.heap[b]? = some (.cells #[v, I H.room] 73 (0, 0))
  fr : Chg (fun k => w0.heap.size ≤ k) w0 w
theorem HP.new {S : Nat → Prop} {w0 w w' : World} {h b : Nat} {H : HubS} {v : Value} (i : HP S w0 w h b H v) (c : New w w') : HP S w0 w' h b H v := by
  obtain ⟨hv, l, ha, hs⟩ := i.hub
  obtain ⟨vs, hr⟩ := i.ref
  exact ⟨⟨hv, l, ha.chg c (fun _ _ _ e => e), hs⟩, ⟨vs, hr.new c⟩, (c.block b (lt_of_block i.box) (fun e => e)).trans i.box, i.fr.trans c (fun _ _ e => e.elim)⟩
/-- Behind a step: the box takes what it answered. -/
theorem HP.step {S : Nat → Prop} {w0 w w' : World} {h b M : Nat} {H : HubS} {v v' : Value} (i : HP S w0 w h b H v) (hb : ¬ S b) (hw : w0.heap.size ≤ b) (hS : ∀ k, S k → w0.heap.size ≤ k) (o : StepOut S w w' h H.room M v') (x : Value) (hx : x = I H.room) :
    ∃ H', HP S w0 ((w'.setCell ⟨b, 0, none⟩ v').setCell ⟨b, 1, none⟩ x) h b H' v' ∧ H'.room = H.room ∧ H'.low M := by
  subst hx
  obtain ⟨c, hv', l', H', vs', ha, hs, hr, hroom, hlow⟩ := o
  have hbx := (c.block b (lt_of_block i.box) hb).trans i.box
  have e1 := heap_setCell_same w' b 0 _ 73 v' hbx
  have e2 := heap_setCell_same _ b 1 _ 73 (I H.room) e1
  have cs : Chg (fun k => k = b) w' ((w'.setCell ⟨b, 0, none⟩ v').setCell ⟨b, 1, none⟩ (I H.room)) := Chg.setCell (S := fun k => k = b) (p := ⟨b, 1, none⟩) (Chg.setCell (S := fun k => k = b) (p := ⟨b, 0, none⟩) (Chg.refl _ w') (fun _ => rfl) v') (fun _ => rfl) (I H.room)
  have nb : ∀ k, k = b → ¬ HubB h hv' l' k := fun k e => by subst e; exact ha.notB hbx (by decide)
  exact ⟨H', ⟨⟨hv', l', ha.chg cs (fun k hk _ e => nb k e hk), hs⟩, ⟨vs', hr.stay (ts := [3, 80]) ((Stay.set hbx (by simp) 0 v').trans (Stay.set e1 (by simp) 1 _)) (by simp) (by simp)⟩, by rw [hroom]; exact e2,
    (i.fr.trans c (fun k _ e => hS k e)).trans cs (fun k _ e => by rw [e]; exact hw)⟩, hroom, hlow⟩
set_option maxRecDepth 100000 in
set_option maxHeartbeats 16000000 in
theorem hubPlays_t (w : World) (room : Int) (a : Option Addr) (len c : Nat) (h : RdOps w a len c) :
    Calls Try.prog 13 #[I room, .slice a len c] w fun e w' => e = .returned (.bool true) ∧ Below w.heap.size w w' := by
  obtain ⟨hlc, hcm, hops⟩ := h
  have HO := hid hops
  unfold maxLen at hcm
  clear hops
  go_enter Try.func13, Try.ntmps13
  go_wp2_with fail
  refine (New_t room _).mono ?_
  rintro e w1 ⟨rfl, ha, hn⟩
  have A1 := hid ha
  have N1 := hid hn
  clear ha hn
  go_wp2_with fail
  refine (New_r4 room _).mono ?_
  rintro e w2 ⟨rfl, hn⟩
  have N2 := hid (show New w1 w2 from hn)
  have N2' := hid (show New w w2 from N1.out.trans hn (fun _ _ e => e))
  have A2 := hid (A1.out.chg hn (fun _ _ _ e => e))
  have LT := hid (lt_of_block A2.out.cells)
  clear hn
  have HR := hid (show (HubS.new room).room = roomOf room from rfl)
  have BX := hid (heap_alloc_new w2 (.cells #[.slice none 0 0, I (roomOf room)] 73))
  have N3 := hid ((Chg.refl (fun _ => False) w2).alloc (.cells #[.slice none 0 0, I (roomOf room)] 73))
  go_upto_region 3 with fail
  generalize w2.alloc (.cells #[.slice none 0 0, .int .i64 (roomOf room)] 73) = w3 at *
  obtain ⟨b, hb⟩ : ∃ b, w2.heap.size = b := ⟨_, rfl⟩
  obtain ⟨hh, hhb⟩ : ∃ hh, w.heap.size = hh := ⟨_, rfl⟩
  obtain ⟨S, hS⟩ : ∃ S : Nat → Prop, S = fun k => w.heap.size ≤ k ∧ k ≠ b := ⟨_, rfl⟩
  have WB := hid (show w.heap.size ≤ b by rw [← hb]; exact N2'.out.size)
  have SB := hid (show ¬ S b by rw [hS]; exact fun e => e.2 rfl)
  have SW := hid (show ∀ k, S k → w.heap.size ≤ k by rw [hS]; exact fun k e => e.1)
  have SN := hid (show ∀ w' : World, w3.heap.size ≤ w'.heap.size → ∀ k, w'.heap.size ≤ k → S k by
    have h3 := lt_of_block BX.out
    have h4 := WB.out
    rw [hb] at h3
    rw [hS]; exact fun w' hw k hk => ⟨by omega, by omega⟩)
  have HP0 := hid (show HP S w w3 w.heap.size b (HubS.new room) (.slice none 0 0) from ⟨⟨.slice none 0 0, [], A2.out.chg N3.out (fun _ _ _ e => e), fun k hk => by
      rw [hubB_nil hk, hS]
      refine ⟨Nat.le_refl _, ?_⟩
      have := LT.out
      show w.heap.size ≠ b
      omega⟩, ⟨[], RHub.nil _⟩, by rw [← hb]; exact BX.out, ((N2'.out.trans N3.out (fun _ _ e => e)).mono (fun _ _ e => e.elim))⟩)
  have HL0 := hid (show (HubS.new room).low 0 from fun t ht => by simp [HubS.new] at ht)
  rw [hb, hhb]
  rw [hhb] at HP0
  have SWH := hid hhb
  clear hb hhb hS BX LT A1 A2
  go_wp2_with fail
  go_loopw [7, 19] (fun ok i wr => ∃ (m : Nat) (H : HubS) (v : Value), i = .int .i64 m ∧ ok = .bool true ∧ m ≤ len ∧ m ≤ 60 ∧ HP S w wr hh b H v ∧ H.low (5 * m) ∧ w3.heap.size ≤ wr.heap.size) (fun _ i _ => len - (intOf i).toNat)
  case atStart => exact ⟨0, _, _, rfl, rfl, by omega, by omega, HP0.out, HL0.out, Nat.le_refl _⟩
  case round =>
    obtain ⟨W0, rfl⟩ : ∃ W0 : World, W0 = wr := ⟨_, rfl⟩
    obtain ⟨m, H, v, rfl, rfl, hm, hm60, hp, hlow, hsz⟩ := hrel
    have PI := hid hp
    have HL := hid hlow
    have SZ := hid hsz
    clear hp hlow hsz
    by_cases hlt : m < len
    · obtain ⟨g, off, z0, z1, vk, vl, ks, ls, rfl, e0, e1, e2, e3, hk, hl⟩ := HO.out m hlt
      have hg : g < w.heap.size := lt_of_cell e0
      have hgn : ¬ w.heap.size ≤ g := by omega
      have k0 := PI.out.fr.cell e0 hgn
      have k1 := PI.out.fr.cell e1 hgn
      have k2 := PI.out.fr.cell e2 hgn
      have k3 := PI.out.fr.cell e3 hgn
      obtain ⟨ka, kc, rfl⟩ := hk.shape
      obtain ⟨la, lc, rfl⟩ := hl.shape
      rw [List.length_map] at k2 k3 hk hl
      have HK := hid hk
      have HLS := hid hl
      have hlt' := fun {v : Value} {xs : List Int} (h : RdI w v xs) (hne : xs ≠ []) (k : Nat) (hk : v.ownBlock = some k) => (show k < w.heap.size from by
        obtain ⟨x, xs', hx⟩ := List.exists_cons_of_ne_nil hne
        obtain ⟨a', c', e, _, _, h3⟩ := h
        obtain ⟨g', off', ea, hc⟩ := h3 0 (I x) (by rw [hx]; rfl)
        rw [e, ea] at hk
        cases hk
        exact lt_of_cell hc)
      have HKN := hid (show ks ≠ [] → ∀ g, (Value.slice ka ks.length kc).ownBlock = some g → ¬ S g from fun hne g hg e => absurd (SW.out g e) (Nat.not_le.2 (hlt' hk hne g hg)))
      have HLN := hid (show ls ≠ [] → ∀ g, (Value.slice la ls.length lc).ownBlock = some g → ¬ S g from fun hne g hg e => absurd (SW.out g e) (Nat.not_le.2 (hlt' hl hne g hg)))
      have HKW := hid (show ks ≠ [] → ∀ g, (Value.slice ka ks.length kc).ownBlock = some g → ¬ w.heap.size ≤ g from fun hne g hg => Nat.not_le.2 (hlt' hk hne g hg))
      have HLW := hid (show ls ≠ [] → ∀ g, (Value.slice la ls.length lc).ownBlock = some g → ¬ w.heap.size ≤ g from fun hne g hg => Nat.not_le.2 (hlt' hl hne g hg))
      have A := hid ((Chg.refl (fun _ => False) W0).alloc (.cells #[I z0, I z1, .slice ka ks.length kc, .slice la ls.length lc] 76))
      clear hlt' e0 e1 e2 e3 hk hl hg hgn
      by_cases h60 : m < 60
      · obtain ⟨vs0, hr0⟩ := PI.out.ref
        obtain ⟨va, vc, hva, _, _⟩ := owns_shape hr0.row
        subst hva
        obtain ⟨y0, y1, _⟩ := cells2 PI.out.box
        have ya : ∀ o, (W0.alloc o).cell? ⟨b, 0, none⟩ = some (.slice va H.taps.length vc) := fun o => acell y0 o
        have yb : ∀ o, (W0.alloc o).cell? ⟨b, 1, none⟩ = some (I H.room) := fun o => acell y1 o
        have P1 := hid (PI.out.new A.out)
        obtain ⟨hv1, l1, ha1, hs1⟩ := P1.out.hub
        obtain ⟨vs1, hr1⟩ := P1.out.ref
        have ST := hid (step_h ha1 hs1 (SN.out _ (Nat.le_trans SZ.out A.out.size)) hr1 (5 * m) HL.out (by omega) z0 z1 _ _ ks ls (rdI_keep HK.out P1.out.fr HKW.out) (rdI_keep HLS.out P1.out.fr HLW.out) HKN.out HLN.out)
        clear hr0 ha1 hs1 hr1
        go_wp2_with fail
        refine ST.out.mono ?_
        rintro e w5 ⟨v', rfl, o⟩
        obtain ⟨H6, hp6, hroom6, hlow6⟩ := P1.out.step SB.out WB.out SW.out o (.int .i64 H.room) rfl
        obtain ⟨vs6, hr6⟩ := hp6.ref
        obtain ⟨va5, vc5, hv5, _, _⟩ := owns_shape hr6.row
        subst hv5
        have BX5 := hid ((o.1.block b (lt_of_block P1.out.box) SB.out).trans P1.out.box)
        obtain ⟨p0, p1, pf⟩ := cells2 BX5.out
        have HP6 := hid hp6
        have R6 := hid hr6
        have RM6 := hid hroom6
        have L6 := hid hlow6
        have SZ5 := hid (show w3.heap.size ≤ w5.heap.size from Nat.le_trans SZ.out (Nat.le_trans A.out.size o.1.size))
        clear o hr6 hp6 hroom6 hlow6 k0 k1 k2 k3 y0 y1 ya yb
        go_upto_region 8 with fail
        have SZ6 := hid (show w3.heap.size ≤ ((w5.setCell ⟨b, 0, none⟩ (.slice va5 H6.taps.length vc5)).setCell ⟨b, 1, none⟩ (.int .i64 H.room)).heap.size by simp [World.setCell]; exact SZ5.out)
        generalize (w5.setCell ⟨b, 0, none⟩ (.slice va5 H6.taps.length vc5)).setCell ⟨b, 1, none⟩ (.int .i64 H.room) = w6 at *
        obtain ⟨hv6, l6, ha6, hs6⟩ := HP6.out.hub
        have A6 := hid ha6
        have FEW := ha6.few
        have B6 := hid HP6.out.box
        clear ha6 hs6 p0 p1 pf
        go_wp2_with fail
        go_loopw [7, 10] (fun ok k wr => ∃ z : Int, k = .int .i64 z ∧ ok = .bool true ∧ -1 ≤ z ∧ z ≤ H6.taps.length + 1 ∧ New w6 wr) (fun _ k _ => (H6.taps.length + 1 - intOf k).toNat)
        case atStart => exact ⟨-1, rfl, rfl, by omega, by omega, Chg.refl _ _⟩
        case round =>
          obtain ⟨W1, rfl⟩ : ∃ W1 : World, W1 = wr := ⟨_, rfl⟩
          obtain ⟨z, rfl, rfl, hz0, hz1, hn⟩ := hrel
          have N := hid hn
          have A7 := hid (A6.out.chg hn (fun _ _ _ e => e))
          have R7 := hid (R6.out.new hn)
          obtain ⟨y0, y1, yf⟩ := cells2 ((hn.block b (lt_of_block B6.out) (fun e => e)).trans B6.out)
          clear hn
          by_cases hle : z ≤ H6.taps.length
          · by_cases hin : 0 ≤ z ∧ z < H6.taps.length
            · obtain ⟨i, rfl⟩ : ∃ i : Nat, z = i := ⟨z.toNat, by omega⟩
              have hi : i < H6.taps.length := by omega
              obtain ⟨g', cap', u, hv', q0, q1, q2, hbuf, _⟩ := R7.out.at hi
              injection hv' with ea en ec
              subst ea
              obtain ⟨ua, uc, rfl⟩ := hbuf.1.shape
              rw [List.length_map] at q0
              have LE := hid (show H6.len i = H6.taps[i].buf.length by unfold HubS.len; rw [if_pos hin, Int.toNat_natCast, List.getElem?_eq_getElem hi]; rfl)
              have ME := hid (show H6.missed i = H6.taps[i].missed by unfold HubS.missed; rw [if_pos hin, Int.toNat_natCast, List.getElem?_eq_getElem hi]; rfl)
              have hi0 : (0 : Int) ≤ i := by omega
              have hi1 : (i : Int) < H6.taps.length := by omega
              clear hbuf en ec hin
              generalize H6.taps[i].buf.length = nb at *
              generalize H6.taps[i].missed = nm at *
              generalize H6.taps[i].op = no at *
              go_wp2_with fail
              have A8 := hid (A7.out.chg (Chg.drew (Chg.refl (fun _ => False) _)) (fun _ _ _ e => e))
              have N8 := hid (N.out.drew)
              go_region
              go_wp2_with fail
              refine (Len_t A8.out i).mono ?_
              rintro e w8 ⟨he, rfl⟩
              rw [LE.out] at he
              subst he
              go_wp2_with fail
              refine (Missed_t A8.out i).mono ?_
              rintro e w9 ⟨he, rfl⟩
              rw [ME.out] at he
              subst he
              go_wp2_with fail
              go_roundw
              case rel => exact ⟨(i : Int) + 1, by first | rfl | go_num, rfl, by omega, by omega, N8.out⟩
              case measure => simp [intOf]; omega
            · have LE := hid (show H6.len z = 0 by unfold HubS.len; rw [if_neg hin])
              have ME := hid (show H6.missed z = 0 by unfold HubS.missed; rw [if_neg hin])
              by_cases hneg : z < 0
              · clear hin
                go_wp2_with fail
                refine (Len_t A7.out z).mono ?_
                rintro e w8 ⟨he, rfl⟩
                rw [LE.out] at he
                subst he
                go_wp2_with fail
                refine (Missed_t A7.out z).mono ?_
                rintro e w9 ⟨he, rfl⟩
                rw [ME.out] at he
                subst he
                go_wp2_with fail
                go_roundw
                case rel => exact ⟨z + 1, by first | rfl | go_num, rfl, by omega, by omega, N.out⟩
                case measure => simp [intOf]; omega
              · have hge : (H6.taps.length : Int) ≤ z := by omega
                have hnn : 0 ≤ z := by omega
                clear hin hneg
                go_wp2_with fail
                refine (Len_t A7.out z).mono ?_
                rintro e w8 ⟨he, rfl⟩
                rw [LE.out] at he
                subst he
                go_wp2_with fail
                refine (Missed_t A7.out z).mono ?_
                rintro e w9 ⟨he, rfl⟩
                rw [ME.out] at he
                subst he
                go_wp2_with fail
                go_roundw
                case rel => exact ⟨z + 1, by first | rfl | go_num, rfl, by omega, by omega, N.out⟩
                case measure => simp [intOf]; omega
          · go_wp2_with fail
            go_roundw
            case rel => exact ⟨m + 1, H6, _, by go_num, rfl, by omega, by omega, HP6.out.new N.out, by rw [Nat.mul_add]; exact L6.out, Nat.le_trans SZ6.out N.out.size⟩
            case measure => simp [intOf]; omega
      · obtain rfl : m = 60 := by omega
        go_wp2_with fail
        refine (awake_t _).mono ?_
        rintro e w5 ⟨rfl, hn⟩
        have C5 := hid ((PI.out.fr.alloc _).trans hn (fun _ _ e => e.elim))
        clear hn
        go_wp2_with fail
        go_ret
        exact ⟨rfl, C5.out.below (fun k e => e) (Nat.le_refl _)⟩
    · go_wp2_with fail
      refine (awake_t _).mono ?_
      rintro e w5 ⟨rfl, hn⟩
      have C5 := hid (PI.out.fr.trans hn (fun _ _ e => e.elim))
      clear hn
      go_wp2_with fail
      go_ret
      exact ⟨rfl, C5.out.below (fun k e => e) (Nat.le_refl _)⟩
end Go.Proofs.Ytjlmbmamkhneiaa
