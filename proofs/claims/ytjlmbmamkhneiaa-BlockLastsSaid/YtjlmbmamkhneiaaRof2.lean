/- The walk of the Off of the document's device. -/
import Derived.Test.YtjlmbmamkhneiaaRof
import Derived.Deep.RegionHeld3
import Derived.Deep.DeepCutAuto
import Derived.Outline
namespace Go.Proofs.Ytjlmbmamkhneiaa
open Go Go.RowKit
set_option linter.unusedVariables false
theorem acell_lt {w : World} {a : Addr} {v : Value} (h : w.cell? a = some v) (o : Obj) : (w.alloc o).cell? a = some v := (World.cell?_alloc_lt _ _ _ (block_lt_of_cell h)).trans h
theorem grown_cell {w w' : World} {r : Option Nat} (hg : w.grownBy w' r) {g i : Nat} {v : Value} (h : w.cell? ⟨g, i, none⟩ = some v) (hn : r ≠ some g) : w'.cell? ⟨g, i, none⟩ = some v :=
  (hg.cell_far ⟨g, i, none⟩ (lt_of_cell h) (fun e => hn e.symm)).trans h
theorem heap_alloc_keep {w w' : World} {k : Nat} {o : Obj} (h : w.heap[k]? = some o) (c : New w w') : w'.heap[k]? = some o := (c.block k (lt_of_block h) (fun e => e)).trans h
set_option maxRecDepth 100000 in
set_option maxHeartbeats 8000000 in
theorem Off_ron {S : Nat → Prop} {w : World} {d : Nat} {vL vP vK : Value} {ls0 ps : List Value} {D : DevS} (h : RefIs S w d vL vP vK ls0 ps D) (hd : D.down = false) (xv : Value) (xs : List Int) (hx : RdI w xv xs) (hxn : xs ≠ [] → ∀ k, xv.ownBlock = some k → ¬ Mut S rts w k) :
    Calls Try.prog 57 #[.pointer (some ⟨d, 0, none⟩), xv] w fun e w' => e = .returned (.tuple #[]) ∧ RefAt S w' d (D.off xs) ∧ Chg (Mut S rts w) w w' := by
  have H := hid h
  have HX := hid hx
  have HXN := hid hxn
  obtain ⟨h0, h1, h2, h3, h4, hf⟩ := cells5 h.dev
  rw [hd] at h2
  obtain ⟨xa, xc, rfl⟩ := hx.shape
  have hxm : xs.length ≤ maxLen := by
    obtain ⟨_, _, e, q1, q2, _⟩ := hx
    rw [List.length_map] at q1; omega
  unfold maxLen at hxm
  obtain ⟨pa, pc, rfl, hp1, hp2⟩ := owns_shape h.pend
  have hfew := h.ok.few
  have hzl := h.zl
  have hpl := h.pl
  rw [hzl] at H h1
  rw [List.length_map] at HX HXN ⊢
  clear h hx hxn hp1 hp2 hzl
  have HD := hid hd
  have HPL := hid hpl
  clear hd hpl
  go_enter Try.func57, Try.ntmps57
  go_wp2
  go_loopw [18] (fun j wr => ∃ (m : Nat) (ls : List Value), j = .int .i64 m ∧ m ≤ D.pend.length ∧ RefIs S wr d vL (.slice pa D.pend.length pc) vK ls ps (D.torn xs m) ∧ Chg (Mut S rts w) w wr) (fun j _ => D.pend.length - (intOf j).toNat)
  case atStart => exact ⟨0, ls0, rfl, by omega, by rw [torn_zero]; exact H.out, Chg.refl _ _⟩
  case round =>
    obtain ⟨m, ls, rfl, hm, hi, hc⟩ := hrel
    have A1 := hid hi
    have C1 := hid hc
    clear hi hc h0 h2 h3 h4 hf h1
    by_cases hlt : m < D.pend.length
    · have hm2 : m < ps.length := by rw [HPL.out]; exact hlt
      obtain ⟨gp, cap, hv, p0, p1, pu⟩ := A1.out.pendAt (m := m) hlt hm2
      injection hv with e1 e2 e3
      subst e1 e3
      clear e2
      have HP := hid (H.out.ok.pend _ (List.getElem_mem hlt))
      have HST := hid (torn_step D xs hlt)
      have pu' : OwnB wr ps[m] D.pend[m].2 := pu
      have p0' : wr.cell? ⟨gp, m * 2, none⟩ = some (I D.pend[m].1) := p0
      clear pu p0
      generalize D.pend[m] = p at *
      generalize ps[m] = u at *
      clear hm2
      obtain ⟨gu, uc, rfl, _, hgu⟩ := World.ownsRow.form pu' (by rw [HP.out.2]; omega)
      have hul := HP.out.2
      rw [hul] at p1
      have PU := hid (show wr.ownsRow 0 5 1 (.slice (some ⟨gu, 0, none⟩) 64 uc) 64 (p.2.map B) by have h := pu'; unfold OwnB at h; rw [hul] at h; exact h)
      clear pu' hul
      go_upto_if 25 with fail
      have K0 := hid (heap_alloc_new wr (.cells #[.int .i64 p.1, .slice (some ⟨gu, 0, none⟩) 64 uc] 98))
      have N1 := hid ((Chg.refl (fun _ => False) wr).alloc (.cells #[.int .i64 p.1, .slice (some ⟨gu, 0, none⟩) 64 uc] 98))
      clear p0' p1
      generalize hw1 : wr.alloc (.cells #[.int .i64 p.1, .slice (some ⟨gu, 0, none⟩) 64 uc] 98) = w1 at *
      have HZ1 := hid (show w1.heap.size = wr.heap.size + 1 by rw [← hw1]; exact World.size_alloc _ _)
      clear hw1
      have kc0 : w1.cell? ⟨wr.heap.size, 0, none⟩ = some (I p.1) := by rw [cell_of_row _ _ _ _ _ _ K0.out]; rfl
      have kc1 : w1.cell? ⟨wr.heap.size, 1, none⟩ = some (.slice (some ⟨gu, 0, none⟩) 64 uc) := by rw [cell_of_row _ _ _ _ _ _ K0.out]; rfl
      have A2 := hid (A1.out.new N1.out)
      have U2 := hid (owns_new PU.out N1.out)
      go_cut [6] (fun s6 wx => s6 = I (rawN xs m) ∧ wx = w1)
      case first =>
        by_cases hxs : xs = []
        · subst hxs
          go_wp2_with fail
          go_meet
          exact ⟨rfl, rfl⟩
        · have hpos : 0 < xs.length := List.length_pos_iff.2 hxs
          have hjl : m % xs.length < xs.length := Nat.mod_lt _ hpos
          have hrd : RdI w1 (.slice xa xs.length xc) xs := (HX.out.chg C1.out (fun k hk _ => HXN.out hxs k hk)).chg N1.out (fun _ _ _ e => e)
          obtain ⟨_, _, hsl, _, _, hcell⟩ := hrd
          injection hsl with q1 q2 q3
          obtain ⟨g2, off2, rfl, hcj⟩ := hcell (m % xs.length) (I (rawN xs m)) (by unfold rawN; rw [List.getElem?_map, List.getD_eq_getElem?_getD, List.getElem?_eq_getElem hjl]; rfl)
          subst q1
          clear q2 q3 hcell hxs
          go_wp2_with fail
          go_meet
          exact ⟨rfl, rfl⟩
      case rest =>
        obtain ⟨rfl, hwc⟩ := hcut
        subst hwc
        generalize hkk : wr.heap.size = kk at *
        clear hkk
        have hL : (D.torn xs m).lasts.length = D.lasts.length := tear_len _ _ _ _
        have hp1 : p.1 < (D.torn xs m).lasts.length := by rw [hL]; exact HP.out.1
        obtain ⟨gl, lc, o, hv, hlo, hlc, ho⟩ := A2.out.lastAt hp1
        rw [hL] at hv
        subst hv
        have OL := hid (A2.out.ok.cell _ (List.getElem_mem hp1))
        have HP1 := hid hp1
        generalize hold : (D.torn xs m).lasts[p.1] = old at *
        have HOLD := hid (show (D.torn xs m).lasts.getD p.1 [] = old by rw [List.getD_eq_getElem?_getD, List.getElem?_eq_getElem hp1]; exact hold)
        obtain ⟨go, oc, rfl, _, _⟩ := World.ownsRow.form ho (by rw [OL.out]; omega)
        rw [OL.out] at hlc
        have HO := hid ho
        obtain ⟨d0, _, _, _, _, df⟩ := cells5 A2.out.dev
        have hrd : Rd wc (.slice (some ⟨go, 0, none⟩) 64 oc) old := by have := HO.out.rd; rw [OL.out] at this; exact this
        have HRD := hid hrd
        have X0 := hid d0
        have X1 := hid kc0
        have X2 := hid hlc
        have XK := hid kc1
        have hpl : (p.1 : Int) < (D.lasts.length : Int) := by have := HP.out.1; omega
        have hpl0 : (0 : Int) ≤ (p.1 : Int) := by omega
        have hmost := H.out.ok.most
        have KA := hid (And.intro (acell_lt X0.out (.cells #[] 5)) (And.intro (acell_lt X1.out (.cells #[] 5)) (acell_lt X2.out (.cells #[] 5))))
        have E1 := hid (own_empty (w := wc) wc.heap.size 5 (Nat.le_refl _))
        have NA := hid ((Chg.refl (fun _ => False) wc).alloc (.cells #[] 5))
        clear hold hlo hlc ho hL hp1 df hrd d0 kc0 kc1
        go_wp2_with fail
        go_region_held3 (fun w' => w'.cell? ⟨d, 0, none⟩ = some (.slice (some ⟨gl, 0, none⟩) D.lasts.length lc) ∧ w'.cell? ⟨kk, 0, none⟩ = some (I p.1) ∧ w'.cell? ⟨gl, p.1, none⟩ = some (.slice (some ⟨go, 0, none⟩) 64 oc))
          (first | exact K3.out | exact ⟨X0.out, X1.out, X2.out⟩ | exact KA.out | go_keep)
          ((refine step_append_rd (P := Try.prog) ?_ (.tmp 33) (.tmp 41) 22 ?_ T22 rfl wc.heap.size (.slice (some ⟨wc.heap.size, 0, none⟩) 0 0) [] ?_ E1.out.drew (.slice (some ⟨go, 0, none⟩) 64 oc) ?_ (old.map B) ((HRD.out.new NA.out).drew) (cellO old) (by rw [List.length_map, OL.out]; simp) (by rw [List.length_map, OL.out]; simp [maxLen]) (by simp [World.drew]) ?_; rfl; rfl; rfl; rfl; intro v7 w3 ho7 hg7; have O7 := hid ho7; have G7 := hid hg7; have N7 := hid (NA.out.drew.grown hg7 (fun k hk hlt => absurd hlt (by simp [Value.ownBlock] at hk; omega))); have K3 := hid (And.intro (N7.out.cell X0.out (fun e => e)) (And.intro (N7.out.cell X1.out (fun e => e)) (N7.out.cell X2.out (fun e => e)))); clear ho7 hg7))
        rw [List.nil_append, List.length_map, OL.out] at O7
        obtain ⟨gb, bc, hv7, hb7, hl7⟩ := World.ownsRow.form O7.out (by omega)
        subst hv7
        have B7 := hid hb7
        have KN := hid (keepN_raw xs m)
        have hkn := keepN_le xs m
        have hkr : ∀ q : Nat, q < 64 → (((q : Int) < rawN xs m) ↔ q < keepN xs m) := fun q hq => by have := KN.out; omega
        have HKR := hid hkr
        have HKN := hid hkn
        generalize keepN xs m = n at *
        generalize rawN xs m = raw at *
        clear hkr hl7 hb7
        go_wp2_with fail
        go_loopw [8] (fun i wi => ∃ q : Nat, i = .int .i64 q ∧ q ≤ n ∧ wi.ownsRow wc.heap.size 5 1 (.slice (some ⟨gb, 0, none⟩) 64 bc) 64 ((p.2.take q ++ old.drop q).map B) ∧ New wc wi) (fun i _ => n - (intOf i).toNat)
        case atStart => exact ⟨0, rfl, by omega, by simpa using O7.out, N7.out⟩
        case round =>
          obtain ⟨q, rfl, hq, ho, hn⟩ := hrel
          have OQ := hid ho
          have NQ := hid hn
          have hkn' := HKN.out
          clear ho hn
          by_cases hqn : q < n
          · have hq64 : q < 64 := by omega
            have hqr : (q : Int) < raw := (HKR.out q hq64).2 hqn
            have x1 := NQ.out.cell XK.out (fun e => e)
            have hpq : q < p.2.length := by rw [HP.out.2]; exact hq64
            have uq := hid (owns_new U2.out NQ.out)
            have x2 : wr.cell? ⟨gu, q, none⟩ = some (B p.2[q]) := by
              rw [World.ownsRow.cellAt uq.out q (by omega), List.getElem?_map, List.getElem?_eq_getElem hpq]; rfl
            have hoq : q < old.length := by rw [OL.out]; exact hq64
            have x3 : wr.cell? ⟨gb, q, none⟩ = ((p.2.take q ++ old.drop q).map B)[q]? := World.ownsRow.cellAt OQ.out q (by omega)
            obtain ⟨y, hy⟩ : ∃ y, ((p.2.take q ++ old.drop q).map B)[q]? = some y := ⟨_, List.getElem?_eq_getElem (by simp [HP.out.2, OL.out]; omega)⟩
            rw [hy] at x3
            have x4 : ∀ j, wr.frozen? ⟨gb, j, none⟩ = false := fun j => World.ownsRow.frozenAt OQ.out j
            obtain ⟨st1, st2⟩ := World.ownsRow.stored OQ.out q (B p.2[q])
            have MS := hid (show ((p.2.take q ++ old.drop q).map B).set q (B p.2[q]) = (p.2.take (q + 1) ++ old.drop (q + 1)).map B by rw [← List.map_set, mix_step hpq hoq])
            rw [MS.out] at st1
            have ST1 := hid st1
            have ST2 := hid (NQ.out.grown st2 (fun k hk hlt => absurd hlt (by cases hk; have := B7.out; omega)))
            clear hy st1 st2 hoq
            generalize p.2[q] = z at *
            go_wp2_with fail
            go_roundw
            case rel => exact ⟨q + 1, by go_num, by omega, ST1.out, ST2.out⟩
            case measure => simp [intOf]; omega
          · obtain rfl : q = n := by omega
            have hqr : ¬ (q < 64 ∧ (q : Int) < raw) := fun e => by have := (HKR.out q e.1).1 e.2; omega
            have AQ := hid (A2.out.new NQ.out)
            have D9 := hid (show OwnB wr (.slice (some ⟨gb, 0, none⟩) 64 bc) (p.2.take q ++ old.drop q) by unfold OwnB; rw [show (p.2.take q ++ old.drop q).length = 64 by simp [HP.out.2, OL.out]; omega]; exact owns_base OQ.out (Nat.zero_le _))
            have L9 := hid (AQ.out.setLast rfl HP1.out D9.out (by simp [HP.out.2, OL.out]; omega))
            have y0 := NQ.out.cell X0.out (fun e => e)
            have y1 := NQ.out.cell X1.out (fun e => e)
            have y2 := NQ.out.cell X2.out (fun e => e)
            obtain ⟨_, _, cc, hcc⟩ := owns_block AQ.out.lasts (show (Value.slice (some ⟨gl, 0, none⟩) D.lasts.length lc).ownBlock = some gl from rfl)
            have yf : ∀ j, wr.frozen? ⟨gl, j, none⟩ = false := fun j => frozen_of_row wr gl j _ _ hcc
            have KX := hid (heap_alloc_keep K0.out NQ.out)
            have hkg : kk ≠ gl := by rintro rfl; rw [KX.out] at hcc; simp at hcc
            have z0 := (cells5 L9.out.1.dev).1
            have z1 : (wr.setCell ⟨gl, p.1, none⟩ (.slice (some ⟨gb, 0, none⟩) 64 bc)).cell? ⟨kk, 0, none⟩ = some (I p.1) := by
              rw [World.cell?_setCell_other _ _ _ _ (fun e => hkg (by injection e with e1; exact e1.symm))]; exact y1
            have Z3 := hid (And.intro z0 z1)
            have Y3 := hid (And.intro y0 y1)
            clear hcc z0 z1 hqr
            have hqr : ¬ (q < 64 ∧ (q : Int) < raw) := fun e => by have := (HKR.out q e.1).1 e.2; omega
            by_cases h64 : q < 64
            · have hq2 : ¬ (q : Int) < raw := fun e => hqr ⟨h64, e⟩
              clear hqr
              go_wp2_with fail
              go_region_held3 (fun w' => w'.cell? ⟨d, 0, none⟩ = some (.slice (some ⟨gl, 0, none⟩) D.lasts.length lc) ∧ w'.cell? ⟨kk, 0, none⟩ = some (I p.1)) (first | exact Y3.out | exact Z3.out | go_keep) (fail)
              go_wp2_with fail
              go_roundw
              case rel => exact ⟨m + 1, _, by go_num, by omega, by rw [HST.out, tearAt, HOLD.out]; exact L9.out.1.same rfl rfl rfl rfl, ((C1.out.tr (N1.out.mono fun _ _ e => e.elim)).tr (NQ.out.mono fun _ _ e => e.elim)).tr L9.out.2.drew⟩
              case measure => simp [intOf]; omega
            · have hq3 : q = 64 := by omega
              subst hq3
              clear hqr
              go_wp2_with fail
              go_region_held3 (fun w' => w'.cell? ⟨d, 0, none⟩ = some (.slice (some ⟨gl, 0, none⟩) D.lasts.length lc) ∧ w'.cell? ⟨kk, 0, none⟩ = some (I p.1)) (first | exact Y3.out | exact Z3.out | go_keep) (fail)
              go_wp2_with fail
              go_roundw
              case rel => exact ⟨m + 1, _, by go_num, by omega, by rw [HST.out, tearAt, HOLD.out]; exact L9.out.1.same rfl rfl rfl rfl, ((C1.out.tr (N1.out.mono fun _ _ e => e.elim)).tr (NQ.out.mono fun _ _ e => e.elim)).tr L9.out.2.drew⟩
              case measure => simp [intOf]; omega
    · obtain rfl : m = D.pend.length := by omega
      have A2 := A1.out
      rw [torn_all] at A2
      obtain ⟨h0, h1, h2, h3, h4, hf⟩ := cells5 A2.dev
      have HA2 := hid A2
      clear A2 h4
      go_wp2_with fail
      have HE := off_rend HA2.out
      have e : D.off xs = { D with lasts := tear xs 0 D.pend D.lasts, pend := [], down := true, fuse := 0 } := by unfold DevS.off; rw [HD.out]; rfl
      go_end0
      rw [e]
      exact ⟨rfl, HE.1, C1.out.tr HE.2⟩
end Go.Proofs.Ytjlmbmamkhneiaa
