/- The walks of the document's device: Off, act, Sync, Arm. -/
import Derived.Test.YtjlmbmamkhneiaaRof2
namespace Go.Proofs.Ytjlmbmamkhneiaa
open Go Go.RowKit
set_option linter.unusedVariables false
theorem Off_r {S : Nat → Prop} {w : World} {d : Nat} {D : DevS} (h : RefAt S w d D) (xv : Value) (xs : List Int) (hx : RdI w xv xs) (hxn : xs ≠ [] → ∀ k, xv.ownBlock = some k → ¬ Mut S rts w k) :
    Calls Try.prog 57 #[.pointer (some ⟨d, 0, none⟩), xv] w fun e w' => e = .returned (.tuple #[]) ∧ RefAt S w' d (D.off xs) ∧ Chg (Mut S rts w) w w' := by
  obtain ⟨vL, vP, vK, ls, ps, h⟩ := h
  cases hd : D.down
  · exact Off_ron h hd xv xs hx hxn
  · have H := hid h
    obtain ⟨h0, h1, h2, h3, h4, hf⟩ := cells5 h.dev
    have e : D.off xs = D := by unfold DevS.off; rw [if_pos hd]
    rw [hd] at h2
    rw [e]
    clear h e hd h0 h1 h3 h4 hx hxn
    go_enter Try.func57, Try.ntmps57
    go_wp2
    exact bodyPost_ret (results_none rfl _ _ _) rfl ⟨rfl, ⟨_, _, _, _, _, H.out⟩, Chg.refl _ _⟩
theorem RefIs.setFuse {S : Nat → Prop} {w : World} {d : Nat} {vL vP vK : Value} {ls ps : List Value} {D : DevS} (h : RefIs S w d vL vP vK ls ps D) (n : Nat) (z : Int) (hz : z = n) (hn : n ≤ 9223372036854775807) : RefIs S (w.setCell ⟨d, 3, none⟩ (.int .i64 z)) d vL vP vK ls ps { D with fuse := n } ∧ Chg (Mut S rts w) w (w.setCell ⟨d, 3, none⟩ (.int .i64 z)) := by
  subst hz
  exact ⟨h.fields vP vK ps { D with fuse := n } rfl (chg_one w d 3 _) (heap_setCell_same w d 3 _ 45 _ h.dev) h.pend h.pb h.keep h.sp ⟨h.ok.cell, h.ok.pend, h.ok.most, hn, h.ok.few⟩, h.set (Chg.refl _ w) 3 _⟩
theorem act_r {S : Nat → Prop} {w : World} {d : Nat} {D : DevS} (h : RefAt S w d D) (hdn : D.down = false) :
    Calls Try.prog 59 #[.pointer (some ⟨d, 0, none⟩)] w fun e w' => e = .returned (.bool D.act.2) ∧ RefAt S w' d D.act.1 ∧ Chg (Mut S rts w) w w' := by
  obtain ⟨vL, vP, vK, ls, ps, h⟩ := h
  have H := hid h
  obtain ⟨h0, h1, h2, h3, h4, hf⟩ := cells5 h.dev
  have hfu := h.ok.fuse
  have HDN := hid hdn
  clear h0 h1 h2 hdn
  by_cases c0 : D.fuse = 0
  · rw [c0] at h3
    have e : D.act = (D, true) := by unfold DevS.act; rw [if_pos c0]
    rw [e]
    clear e c0 h
    go_enter Try.func59, Try.ntmps59
    go_wp2
    go_ret
    exact ⟨rfl, ⟨_, _, _, _, _, H.out⟩, Chg.refl _ _⟩
  · by_cases c1 : 1 < D.fuse
    · have e : D.act = ({ D with fuse := D.fuse - 1 }, true) := by unfold DevS.act; rw [if_neg c0, if_pos c1]
      rw [e]
      clear e h
      have HF := hid (H.out.setFuse (D.fuse - 1) (D.fuse - 1) (by omega) (by omega))
      have c1' : (1 : Int) < (D.fuse : Int) := by omega
      have c2' : ((D.fuse : Int) == 1) = false := by rw [beq_eq_false_iff_ne]; omega
      generalize D.fuse = n at *
      go_enter Try.func59, Try.ntmps59
      go_wp2
      go_ret
      exact ⟨rfl, ⟨_, _, _, _, _, HF.out.1⟩, HF.out.2⟩
    · have c2 : D.fuse = 1 := by omega
      have e : D.act = (D.off D.keep, false) := by
        unfold DevS.act DevS.off
        rw [if_neg c0, if_neg c1, HDN.out]
        rfl
      rw [e]
      clear e h c0 c1
      rw [c2] at h3
      clear c2 hfu
      go_enter Try.func59, Try.ntmps59
      go_wp2_with fail
      refine (Off_r ⟨_, _, _, _, _, H.out⟩ vK D.keep H.out.keepRd (fun _ => H.out.keepNot)).mono ?_
      rintro e w' ⟨rfl, hd, hc⟩
      have HD := hid hd
      have HC := hid hc
      clear hd hc
      go_wp2_with fail
      go_ret
      exact ⟨rfl, HD.out, HC.out⟩
theorem clearR {S : Nat → Prop} {w : World} {d : Nat} {vL vP vK : Value} {ls ps : List Value} {D : DevS} (h : RefIs S w d vL vP vK ls ps D) :
    RefIs S (w.setCell ⟨d, 1, none⟩ (.slice none 0 0)) d vL (.slice none 0 0) vK ls [] { D with pend := [] } ∧ Chg (Mut S rts w) w (w.setCell ⟨d, 1, none⟩ (.slice none 0 0)) :=
  ⟨h.fields _ vK [] { D with pend := [] } rfl (chg_one w d 1 _) (heap_setCell_same w d 1 _ 45 _ h.dev) (World.ownsRow_nil _ _ _ _) ⟨rfl, fun i v b h1 => by simp at h1⟩ h.keep (fun k hk => (by cases hk)) ⟨h.ok.cell, fun p hp => (by cases hp), h.ok.most, h.ok.fuse, Nat.zero_le _⟩, h.set (Chg.refl _ w) 1 _⟩
set_option maxRecDepth 100000 in
set_option maxHeartbeats 4000000 in
theorem Sync_r {S : Nat → Prop} {w : World} {d : Nat} {D : DevS} (h : RefAt S w d D) :
    Calls Try.prog 25 #[.pointer (some ⟨d, 0, none⟩)] w fun e w' => e = .returned (I D.sync.2) ∧ RefAt S w' d D.sync.1 ∧ Chg (Mut S rts w) w w' := by
  obtain ⟨vL, vP, vK, ls0, ps0, h⟩ := h
  have H := hid h
  obtain ⟨c0, c1, c2, c3, c4, cf⟩ := cells5 h.dev
  unfold DevS.sync
  cases hd : D.down
  · rw [hd] at c2
    rw [if_neg (by decide)]
    have A := act_r ⟨_, _, _, _, _, H.out⟩ hd
    clear h hd c0 c1 c3 c4
    cases hact : D.act.2
    · rw [hact] at A
      rw [if_neg (by decide)]
      clear hact
      go_enter Try.func25, Try.ntmps25
      go_wp2_with fail
      refine A.mono ?_
      rintro e w' ⟨rfl, hd, hc⟩
      have HD := hid hd
      have HC := hid hc
      clear hd hc
      go_wp2_with fail
      go_ret
      exact ⟨rfl, HD.out, HC.out⟩
    · rw [hact] at A
      rw [if_pos rfl]
      clear hact
      generalize D.act.1 = E at *
      go_enter Try.func25, Try.ntmps25
      go_wp2_with fail
      refine A.mono ?_
      rintro e w2 ⟨rfl, ⟨vL2, vP2, vK2, ls2, ps, hd⟩, hc⟩
      obtain ⟨pa, pc, rfl, hp1, hp2⟩ := owns_shape hd.pend
      have HPL := hid hd.pl
      have hzl := hd.zl
      rw [hzl] at hd
      have HD := hid hd
      have HC := hid hc
      obtain ⟨_, c1, _⟩ := cells5 hd.dev
      have hfew := hd.ok.few
      have hmost := hd.ok.most
      clear hd hc hzl hp1 hp2 c2 cf
      go_wp2_with fail
      go_loopw [19] (fun n wr => ∃ (m : Nat) (ls : List Value), n = .int .i64 m ∧ m ≤ E.pend.length ∧ RefIs S wr d vL2 (.slice pa E.pend.length pc) vK2 ls ps (E.settled m) ∧ Chg (Mut S rts w) w wr) (fun n _ => E.pend.length - (intOf n).toNat)
      case atStart => exact ⟨0, ls2, rfl, by omega, by rw [settled_zero]; exact HD.out, HC.out⟩
      case round =>
        obtain ⟨m, ls, rfl, hm, hi, hc⟩ := hrel
        have A1 := hid hi
        have C1 := hid hc
        clear hi hc c1
        by_cases hlt : m < E.pend.length
        · have hm2 : m < ps.length := by rw [HPL.out]; exact hlt
          obtain ⟨gp, cap, hv, p0, p1, pu⟩ := A1.out.pendAt (m := m) hlt hm2
          injection hv with e1 e2 e3
          subst e1 e3
          clear e2
          have HP := hid (HD.out.ok.pend _ (List.getElem_mem hlt))
          have HST := hid (settled_step E hlt)
          have pu' : OwnB wr ps[m] E.pend[m].2 := pu
          have p0' : wr.cell? ⟨gp, m * 2, none⟩ = some (I E.pend[m].1) := p0
          clear pu p0
          generalize E.pend[m] = p at *
          generalize ps[m] = u at *
          clear hm2
          obtain ⟨gu, uc, rfl, _, hgu⟩ := World.ownsRow.form pu' (by rw [HP.out.2]; omega)
          have hul := HP.out.2
          have PB := hid pu'
          rw [hul] at p1
          rw [hul] at PB
          go_upto_region 6 with fail
          have K0 := hid (heap_alloc_new wr (.cells #[.int .i64 p.1, .slice (some ⟨gu, 0, none⟩) 64 uc] 98))
          have N1 := hid ((Chg.refl (fun _ => False) wr).alloc (.cells #[.int .i64 p.1, .slice (some ⟨gu, 0, none⟩) 64 uc] 98))
          clear p0' p1 pu'
          generalize wr.alloc (.cells #[.int .i64 p.1, .slice (some ⟨gu, 0, none⟩) 64 uc] 98) = w1 at *
          generalize wr.heap.size = kk at *
          have kc0 : w1.cell? ⟨kk, 0, none⟩ = some (I p.1) := by rw [cell_of_row _ _ _ _ _ _ K0.out]; rfl
          have kc1 : w1.cell? ⟨kk, 1, none⟩ = some (.slice (some ⟨gu, 0, none⟩) 64 uc) := by rw [cell_of_row _ _ _ _ _ _ K0.out]; rfl
          have A2 := hid (A1.out.new N1.out)
          have U2 := hid (PB.out.new N1.out)
          have hL : (E.settled m).lasts.length = E.lasts.length := settle_len _ _
          have hp1 : p.1 < (E.settled m).lasts.length := by rw [hL]; exact HP.out.1
          obtain ⟨gl, lc, o, hv, hlo, hlc, ho⟩ := A2.out.lastAt hp1
          rw [hL] at hv
          subst hv
          obtain ⟨_, _, cc, hcc⟩ := owns_block A2.out.lasts (show (Value.slice (some ⟨gl, 0, none⟩) E.lasts.length lc).ownBlock = some gl from rfl)
          have yf : ∀ j, w1.frozen? ⟨gl, j, none⟩ = false := fun j => frozen_of_row w1 gl j _ _ hcc
          have hkg : kk ≠ gl := by rintro rfl; rw [K0.out] at hcc; simp at hcc
          have L9 := hid (A2.out.setLast rfl hp1 U2.out HP.out.2)
          have z0 := (cells5 L9.out.1.dev).1
          have z1 : (w1.setCell ⟨gl, p.1, none⟩ (.slice (some ⟨gu, 0, none⟩) 64 uc)).cell? ⟨kk, 0, none⟩ = some (I p.1) := by
            rw [World.cell?_setCell_other _ _ _ _ (fun e => hkg (by injection e with e1; exact e1.symm))]; exact kc0
          have z2 : (w1.setCell ⟨gl, p.1, none⟩ (.slice (some ⟨gu, 0, none⟩) 64 uc)).cell? ⟨kk, 1, none⟩ = some (.slice (some ⟨gu, 0, none⟩) 64 uc) := by
            rw [World.cell?_setCell_other _ _ _ _ (fun e => hkg (by injection e with e1; exact e1.symm))]; exact kc1
          have Z3 := hid (And.intro z0 (And.intro z1 z2))
          have Y3 := hid (And.intro (cells5 A2.out.dev).1 (And.intro kc0 kc1))
          have hpl : (p.1 : Int) < (E.lasts.length : Int) := by have := HP.out.1; omega
          have hpl0 : (0 : Int) ≤ (p.1 : Int) := by omega
          clear hcc z0 z1 z2 hlo ho hp1 hL hul
          go_region_held3 (fun w' => w'.cell? ⟨d, 0, none⟩ = some (.slice (some ⟨gl, 0, none⟩) E.lasts.length lc) ∧ w'.cell? ⟨kk, 0, none⟩ = some (I p.1) ∧ w'.cell? ⟨kk, 1, none⟩ = some (.slice (some ⟨gu, 0, none⟩) 64 uc)) (first | exact Y3.out | exact Z3.out | go_keep) (fail)
          go_wp2_with fail
          go_roundw
          case rel => exact ⟨m + 1, _, by go_num, by omega, by rw [HST.out]; exact L9.out.1.same rfl rfl rfl rfl, (C1.out.tr (N1.out.mono fun _ _ e => e.elim)).tr L9.out.2.drew⟩
          case measure => simp [intOf]; omega
        · obtain rfl : m = E.pend.length := by omega
          rw [settled_all] at A1
          have X := clearR A1.out
          obtain ⟨c0, c1, c2, c3, c4, cf⟩ := cells5 A1.out.dev
          have HX := hid X
          clear X c0 c2 c3 c4
          go_wp2_with fail
          go_ret
          exact ⟨rfl, ⟨_, _, _, _, _, HX.out.1⟩, C1.out.tr HX.out.2⟩
  · rw [hd] at c2
    rw [if_pos rfl]
    clear h hd c0 c1 c3 c4
    go_enter Try.func25, Try.ntmps25
    go_wp2_with fail
    go_ret
    exact ⟨rfl, ⟨_, _, _, _, _, H.out⟩, Chg.refl _ _⟩
end Go.Proofs.Ytjlmbmamkhneiaa
