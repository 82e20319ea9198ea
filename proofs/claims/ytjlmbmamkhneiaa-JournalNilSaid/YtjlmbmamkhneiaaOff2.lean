/- The walks of a device's Off and act. -/
import Derived.Test.YtjlmbmamkhneiaaOff
namespace Go.Proofs.Ytjlmbmamkhneiaa
open Go Go.RowKit
set_option linter.unusedVariables false
set_option maxRecDepth 100000 in
set_option maxHeartbeats 4000000 in
theorem Off_on {S : Nat → Prop} {w : World} {d g : Nat} {vP vK : Value} {D : DevS} (h : DevIs S w d g vP vK D) (hd : D.down = false) (xv : Value) (xs : List Int) (hx : RdI w xv xs) (hxn : xs ≠ [] → ∀ k, xv.ownBlock = some k → ¬ Mut S pts w k) :
    Calls Try.prog 18 #[.pointer (some ⟨d, 0, none⟩), xv] w fun e w' => e = .returned (.tuple #[]) ∧ DevAt S w' d (D.off xs) ∧ Chg (Mut S pts w) w w' := by
  have H := hid h
  have HX := hid hx
  have HXN := hid hxn
  obtain ⟨h0, h1, h2, h3, h4, hf⟩ := cells5 h.dev
  rw [hd] at h2
  obtain ⟨xa, xc, rfl⟩ := hx.shape
  have hxm : xs.length ≤ maxLen := by
    obtain ⟨_, _, e, q1, q2, _⟩ := hx
    rw [List.length_map] at q1; omega
  unfold maxLen at hxm
  obtain ⟨pa, pc, rfl, hp1, hp2⟩ := owns_shape h.pend
  have hfew := h.ok.few
  rw [List.length_map] at *
  clear h hx hxn hp1 hp2
  have HD := hid hd
  clear hd
  go_enter Try.func18, Try.ntmps18
  go_wp2
  go_loopw [20] (fun j wr => ∃ m : Nat, j = .int .i64 m ∧ m ≤ D.pend.length ∧ DevIs S wr d g (.slice pa D.pend.length pc) vK (D.torn xs m) ∧ Chg (Mut S pts w) w wr) (fun j _ => D.pend.length - (intOf j).toNat)
  case atStart => exact ⟨0, rfl, by omega, by rw [torn_zero]; exact H.out, Chg.refl _ _⟩
  case round =>
    obtain ⟨m, rfl, hm, hi, hc⟩ := hrel
    have A1 := hid hi
    have C1 := hid hc
    clear hi hc h0 h2 h3 h4 hf h1
    by_cases hlt : m < D.pend.length
    · obtain ⟨gp, cap, hv, hrg⟩ := owns_range A1.out.pend (writeV_len A1.out.ok) (i := m) (x := writeV D.pend[m]) (by rw [List.getElem?_map]; show D.pend[m]?.map _ = _; rw [List.getElem?_eq_getElem hlt]; rfl)
      have hlen : (List.map writeV (D.torn xs m).pend).length = D.pend.length := by rw [List.length_map]; rfl
      rw [hlen] at hv
      injection hv with e1 e2 e3
      subst e1 e3
      clear e2 hlen
      have HP := hid (H.out.ok.pend _ (List.getElem_mem hlt))
      have HST := hid (torn_step D xs hlt)
      generalize D.pend[m] = p at *
      obtain ⟨a1, a2, a3⟩ := writeA p HP.out.2
      have HA1 := hid a1
      have HA2 := hid a2
      have HA3 := hid a3
      have HRG := hid hrg
      clear a1 a2 a3 hrg
      have HA0 := hid (writeL p HP.out.2)
      go_upto_if 27 with (first
        | (refine wpList_load_mid (by rfl) 92 (.tmp 23) (by rfl) gp (m * 65) (by rfl) (writeV p) _ HRG.out Try.underlying92 (by rfl) HA0.out ?_)
        | ((refine wpl_alloc (by rfl) 92 (by rfl) Z92 zero92 ?_); intro w1 hw1; have HW1 := hid hw1; have hz1 : w1.heap[wr.heap.size]? = some (.cells Z92.cells 92 (0, 0)) := (by rw [hw1]; exact heap_alloc_new _ _); have HZ1 := hid hz1; clear hw1 hz1)
        | ((refine wpl_store (by rfl) 92 (.tmp 5) (.tmp 24) (by rfl) wr.heap.size (by rfl) _ (by rfl) _ 92 HZ1.out HA1.out HA2.out HA3.out ?_); intro w2 hw2; have HN := hid (new_write A1.out w1 w2 HW1.out hw2); clear hw2; have hcc := HN.out.1.at))
      go_cut [6] (fun s6 wx => s6 = I (keepN xs m : Nat) ∧ wx = w2)
      case first =>
        by_cases hxs : xs = []
        · subst hxs
          go_wp2_with fail
          go_meet
          exact ⟨rfl, rfl⟩
        · have hpos : 0 < xs.length := List.length_pos_iff.2 hxs
          have hjl : m % xs.length < xs.length := Nat.mod_lt _ hpos
          have hrd : RdI w2 (.slice xa xs.length xc) xs := by
            have := (HX.out.chg C1.out (fun k hk _ => HXN.out hxs k hk)).chg HN.out.2.2.1 (fun _ _ _ e => e)
            exact this
          obtain ⟨_, _, hsl, _, _, hcell⟩ := hrd
          injection hsl with q1 q2 q3
          obtain ⟨g2, off2, rfl, hcj⟩ := hcell (m % xs.length) (I (xs.getD (m % xs.length) 0)) (by rw [List.getElem?_map, List.getD_eq_getElem?_getD, List.getElem?_eq_getElem hjl]; rfl)
          subst q1
          clear q2 q3 hcell hxs
          by_cases hneg : xs.getD (m % xs.length) 0 < 0
          · have HK := hid (keep_zero hneg)
            generalize xs.getD (m % xs.length) 0 = z at *
            go_wp2_with fail
            go_meet
            exact ⟨by rw [HK.out]; rfl, rfl⟩
          · by_cases hbig : 64 < xs.getD (m % xs.length) 0
            · have HK := hid (keep_most hbig)
              generalize xs.getD (m % xs.length) 0 = z at *
              go_wp2_with fail
              go_meet
              exact ⟨by rw [HK.out]; rfl, rfl⟩
            · have HK := hid (keep_mid hneg hbig)
              generalize xs.getD (m % xs.length) 0 = z at *
              go_wp2_with fail
              go_meet
              exact ⟨by rw [HK.out], rfl⟩
      case rest =>
        obtain ⟨rfl, rfl⟩ := hcut
        have hkn := keepN_le xs m
        have HKN := hid hkn
        generalize keepN xs m = n at *
        have hp0 := HP.out.1
        have hL : (D.torn xs m).lasts.length = D.lasts.length := tear_len _ _ _ _
        have hp1 : p.1 < (D.torn xs m).lasts.length := by rw [hL]; exact hp0
        have HP1 := hid hp1
        have HLL := hid hL
        have HDL := hid HN.out.2.1.lasts
        have hnn : (n : Int) ≤ 64 := by omega
        have hn0 : (0 : Int) ≤ (n : Int) := by omega
        have hpl : (p.1 : Int) < (D.lasts.length : Int) := by omega
        have hpl0 : (0 : Int) ≤ (p.1 : Int) := by omega
        have hmost := H.out.ok.most
        obtain ⟨d0, _, _, _, _, df⟩ := cells5 HN.out.2.1.dev
        rw [hL] at d0
        clear df hL hp1 hp0
        have G1 := hid (show ((p.2.take n).map B).length = Nat.min n n by simp [HP.out.2, Nat.min_def]; omega)
        have G2 := hid (show ∀ j v, ((p.2.take n).map B)[j]? = some v → wc.drew.cell? ((⟨wr.heap.size, 1, none⟩ : Addr).add j) = some v from fun j v hv => by
          rw [Addr.add_mid]
          refine HN.out.1.range j v ?_
          rw [List.getElem?_map] at hv ⊢
          rw [List.getElem?_take] at hv
          split at hv
          · exact hv
          · cases hv)
        have G3 := hid (show p.1 * 64 + ((p.2.take n).map B).length ≤ ((D.torn xs m).lasts.map cellV).flatten.length by
          have e1 := G1.out
          rw [show Nat.min n n = n from Nat.min_self n] at e1
          rw [e1, flat_len (cellV_len HN.out.2.1.ok), List.length_map]
          have h1 := tear_len xs (D.pend.take m) 0 D.lasts
          have h2 : (D.torn xs m).lasts.length = D.lasts.length := h1
          rw [h2]
          have := Nat.mul_le_mul_right 64 (show p.1 + 1 ≤ D.lasts.length by omega)
          omega)
        have G4 := hid (show ∀ v ∈ (p.2.take n).map B, v.oneCell' = true by intro v hv; obtain ⟨b, _, rfl⟩ := List.mem_map.1 hv; rfl)
        go_wp2_with fail
        go_region_held3 (fun w' => w'.cell? ⟨d, 0, none⟩ = some (.slice (some ⟨g, 0, none⟩) D.lasts.length D.lasts.length) ∧ w'.cell? ⟨wr.heap.size, 0, none⟩ = some (I p.1)) (first | exact K3.out | go_keep)
          ((refine step_copy_row (P := Try.prog) ?_ (.tmp 45) (.tmp 48) 22 22 ?_ 5 Try.underlying22 size5 g (p.1 * 64) n 64 ⟨wr.heap.size, 1, none⟩ n 64 ?_ ?_ (((D.torn xs m).lasts.map cellV).flatten) 90 HDL.out ((p.2.take n).map B) G1.out G2.out G3.out G4.out ?_; rfl; rfl; rfl; rfl; intro w3 hw3; have K3 := hid (tear_keep HN.out.2.1 HLL.out HN.out.1 hw3); have W3 := hid (tear_world HN.out.2.1 HP1.out HP.out.2 HKN.out hw3); clear hw3))
        go_wp2_with fail
        go_roundw
        case rel => exact ⟨m + 1, by go_num, by omega, by rw [HST.out]; exact W3.out.1, (C1.out.tr (HN.out.2.2.1.mono fun _ _ e => e.elim)).tr W3.out.2⟩
        case measure => simp [intOf]; omega
    · obtain rfl : m = D.pend.length := by omega
      have A2 := A1.out
      rw [torn_all] at A2
      obtain ⟨h0, h1, h2, h3, h4, hf⟩ := cells5 A2.dev
      have HA2 := hid A2
      clear A2 h4
      go_wp2_with fail
      have HE := off_end HA2.out
      have e : D.off xs = { D with lasts := tear xs 0 D.pend D.lasts, pend := [], down := true, fuse := 0 } := by unfold DevS.off; rw [HD.out]; rfl
      go_end0
      rw [e]
      exact ⟨rfl, HE.1, C1.out.tr HE.2⟩
theorem Off_nil (xv : Value) (w : World) : Calls Try.prog 18 #[.pointer none, xv] w fun e w' => e = .returned (.tuple #[]) ∧ w = w' := by
  go_enter Try.func18, Try.ntmps18
  go_wp2
  exact bodyPost_ret (results_none rfl _ _ _) rfl ⟨rfl, by first | rfl | exact ⟨⟨_, _, _, H.out⟩, Chg.refl _ _⟩⟩
theorem Off_off {S : Nat → Prop} {w : World} {d g : Nat} {vP vK : Value} {D : DevS} (h : DevIs S w d g vP vK D) (hd : D.down = true) (xv : Value) (xs : List Int) :
    Calls Try.prog 18 #[.pointer (some ⟨d, 0, none⟩), xv] w fun e w' => e = .returned (.tuple #[]) ∧ DevAt S w' d (D.off xs) ∧ Chg (Mut S pts w) w w' := by
  have H := hid h
  obtain ⟨h0, h1, h2, h3, h4, hf⟩ := cells5 h.dev
  have e : D.off xs = D := by unfold DevS.off; rw [if_pos hd]
  rw [hd] at h2
  rw [e]
  clear h e hd
  go_enter Try.func18, Try.ntmps18
  go_wp2
  exact bodyPost_ret (results_none rfl _ _ _) rfl ⟨rfl, by first | rfl | exact ⟨⟨_, _, _, H.out⟩, Chg.refl _ _⟩⟩
theorem Off_t {S : Nat → Prop} {w : World} {d : Nat} {D : DevS} (h : DevAt S w d D) (xv : Value) (xs : List Int) (hx : RdI w xv xs) (hxn : xs ≠ [] → ∀ k, xv.ownBlock = some k → ¬ Mut S pts w k) :
    Calls Try.prog 18 #[.pointer (some ⟨d, 0, none⟩), xv] w fun e w' => e = .returned (.tuple #[]) ∧ DevAt S w' d (D.off xs) ∧ Chg (Mut S pts w) w w' := by
  obtain ⟨g, vP, vK, h⟩ := h
  cases hd : D.down
  · exact Off_on h hd xv xs hx hxn
  · exact Off_off h hd xv xs
def DevS.act (D : DevS) : DevS × Bool :=
  if D.fuse = 0 then (D, true) else if 1 < D.fuse then ({ D with fuse := D.fuse - 1 }, true) else (({ D with fuse := 0 } : DevS).off D.keep, false)
theorem DevIs.setFuse {S : Nat → Prop} {w : World} {d g : Nat} {vP vK : Value} {D : DevS} (h : DevIs S w d g vP vK D) (n : Nat) (z : Int) (hz : z = n) (hn : n ≤ 9223372036854775807) : DevIs S (w.setCell ⟨d, 3, none⟩ (.int .i64 z)) d g vP vK { D with fuse := n } ∧ Chg (Mut S pts w) w (w.setCell ⟨d, 3, none⟩ (.int .i64 z)) := by
  subst hz
  exact ⟨h.fields vP vK _ rfl (heap_setCell_same w d 3 _ 87 _ h.dev) (fun k hk => heap_setCell_other _ _ _ _ hk) h.pend h.keep h.sp ⟨h.ok.cell, h.ok.pend, h.ok.most, hn, h.ok.few⟩, h.set (Chg.refl _ w) 3 _⟩
theorem DevIs.keepRd {S : Nat → Prop} {w : World} {d g : Nat} {vP vK : Value} {D : DevS} (h : DevIs S w d g vP vK D) : RdI w vK D.keep := RdV.of_owns h.keep
theorem DevIs.keepNot {S : Nat → Prop} {w : World} {d g : Nat} {vP vK : Value} {D : DevS} (h : DevIs S w d g vP vK D) : ∀ k, vK.ownBlock = some k → ¬ Mut S pts w k := by
  intro k hk
  obtain ⟨_, _, c, hc⟩ := owns_block h.keep hk
  exact not_mut hc (by simp)
theorem act_t {S : Nat → Prop} {w : World} {d : Nat} {D : DevS} (h : DevAt S w d D) :
    Calls Try.prog 53 #[.pointer (some ⟨d, 0, none⟩)] w fun e w' => e = .returned (.bool D.act.2) ∧ DevAt S w' d D.act.1 ∧ Chg (Mut S pts w) w w' := by
  obtain ⟨g, vP, vK, h⟩ := h
  have H := hid h
  obtain ⟨h0, h1, h2, h3, h4, hf⟩ := cells5 h.dev
  have hfu := h.ok.fuse
  clear h0 h1 h2
  by_cases c0 : D.fuse = 0
  · rw [c0] at h3
    have e : D.act = (D, true) := by unfold DevS.act; rw [if_pos c0]
    rw [e]
    clear e c0 h
    go_enter Try.func53, Try.ntmps53
    go_wp2
    go_ret
    exact ⟨rfl, ⟨_, _, _, H.out⟩, Chg.refl _ _⟩
  · by_cases c1 : 1 < D.fuse
    · have e : D.act = ({ D with fuse := D.fuse - 1 }, true) := by unfold DevS.act; rw [if_neg c0, if_pos c1]
      rw [e]
      clear e h
      have HF := hid (H.out.setFuse (D.fuse - 1) (D.fuse - 1) (by omega) (by omega))
      generalize D.fuse = n at *
      go_enter Try.func53, Try.ntmps53
      go_wp2
      go_ret
      exact ⟨rfl, ⟨_, _, _, HF.out.1⟩, HF.out.2⟩
    · have c2 : D.fuse = 1 := by omega
      have e : D.act = (({ D with fuse := 0 } : DevS).off D.keep, false) := by unfold DevS.act; rw [if_neg c0, if_neg c1]
      rw [e]
      clear e h c0 c1
      rw [c2] at h3
      clear c2 hfu
      have HF := hid (H.out.setFuse 0 0 rfl (by omega))
      go_enter Try.func53, Try.ntmps53
      go_wp2_with fail
      refine (Off_t ⟨_, _, _, HF.out.1⟩ vK D.keep HF.out.1.keepRd (fun _ => HF.out.1.keepNot)).mono ?_
      rintro e w' ⟨rfl, hd, hc⟩
      have HD := hid hd
      have HC := hid (HF.out.2.tr hc)
      clear hd hc
      go_wp2
      go_ret
      exact ⟨rfl, HD.out, HC.out⟩
end Go.Proofs.Ytjlmbmamkhneiaa
