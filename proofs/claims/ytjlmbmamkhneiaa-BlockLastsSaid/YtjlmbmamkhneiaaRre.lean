/- The walks of the Read and Arm of the document's device. -/
import Derived.Test.YtjlmbmamkhneiaaRwr
namespace Go.Proofs.Ytjlmbmamkhneiaa
open Go Go.RowKit
set_option linter.unusedVariables false
set_option maxRecDepth 100000 in
set_option maxHeartbeats 8000000 in
theorem Read_r {S : Nat → Prop} {w : World} {d : Nat} {D : DevS} (h : RefAt S w d D) (i : Int) :
    Calls Try.prog 61 #[.pointer (some ⟨d, 0, none⟩), I i] w fun e w' => Got D i w w' e ∧ RefAt S w' d D ∧ New w w' := by
  obtain ⟨vL, vP, vK, ls, ps, h⟩ := h
  have H := hid h
  obtain ⟨c0, c1, c2, c3, c4, cf⟩ := cells5 h.dev
  have hmost := h.ok.most
  have hfew := h.ok.few
  rcases ready_is D i with hr | hr | ⟨hr, hi0, hi1, hdn⟩
  · have hdn : D.down = true := by
      unfold DevS.ready at hr
      cases hd : D.down
      · rw [hd, if_neg (by decide)] at hr; split at hr <;> cases hr
      · rfl
    rw [hdn] at c2
    have HR := hid hr
    clear h c0 c1 c3 c4 cf hr hdn
    go_enter Try.func61, Try.ntmps61
    go_wp2
    go_ret2
    exact ⟨.inr ⟨by rw [HR.out]; decide, by rw [HR.out]; rfl⟩, ⟨_, _, _, _, _, H.out⟩, Chg.refl _ _⟩
  · have hdn : D.down = false ∧ ¬ (0 ≤ i ∧ i < D.lasts.length) := by
      unfold DevS.ready at hr
      cases hd : D.down
      · rw [hd, if_neg (by decide)] at hr; split at hr
        · cases hr
        · rename_i hh; exact ⟨rfl, hh⟩
      · rw [hd, if_pos rfl] at hr; cases hr
    obtain ⟨hdn, hout⟩ := hdn
    rw [hdn] at c2
    have HR := hid hr
    obtain ⟨la, lc, hvl, _, _⟩ := owns_shape h.lasts
    have hll := h.lb.1
    subst hvl
    rw [hll] at c0
    clear h c1 c3 c4 cf hr hdn hll
    by_cases hneg : i < 0
    · go_enter Try.func61, Try.ntmps61
      go_wp2
      go_ret2
      exact ⟨.inr ⟨by rw [HR.out]; decide, by rw [HR.out]; rfl⟩, ⟨_, _, _, _, _, H.out⟩, Chg.refl _ _⟩
    · have hge : (D.lasts.length : Int) ≤ i := by omega
      clear hout
      go_enter Try.func61, Try.ntmps61
      go_wp2
      go_ret2
      exact ⟨.inr ⟨by rw [HR.out]; decide, by rw [HR.out]; rfl⟩, ⟨_, _, _, _, _, H.out⟩, Chg.refl _ _⟩
  · rw [hdn] at c2
    have HR := hid hr
    obtain ⟨j, rfl⟩ : ∃ j : Nat, i = j := ⟨i.toNat, by omega⟩
    have hj : j < D.lasts.length := by omega
    obtain ⟨gl, lc, o, hv, hlo, hlc, ho⟩ := h.lastAt hj
    subst hv
    obtain ⟨pa, pc, rfl, hp1, hp2⟩ := owns_shape h.pend
    have HPL := hid h.pl
    have hzl := h.zl
    rw [hzl] at H c1
    have HJ := hid hj
    have HO := hid (show OwnB w o (D.blockTo j 0) by rw [show D.blockTo j 0 = D.lasts[j] by show D.lasts.getD j [] = _; rw [List.getD_eq_getElem?_getD, List.getElem?_eq_getElem hj]; rfl]; exact ho)
    have hjl : (j : Int) < (D.lasts.length : Int) := by omega
    obtain ⟨oa, oc, rfl, _, _⟩ := owns_shape ho
    have h64 := h.ok.cell _ (List.getElem_mem hj)
    rw [h64] at hlc HO
    clear h hr hdn c3 c4 cf hi0 hi1 hlo ho hp1 hp2 hzl h64
    go_enter Try.func61, Try.ntmps61
    go_wp2_with fail
    go_loopw [6, 36] (fun b n wr => ∃ m : Nat, n = .int .i64 m ∧ m ≤ D.pend.length ∧ OwnB wr b (D.blockTo j m) ∧ RefIs S wr d (.slice (some ⟨gl, 0, none⟩) D.lasts.length lc) (.slice pa D.pend.length pc) vK ls ps D ∧ New w wr) (fun _ n _ => D.pend.length - (intOf n).toNat)
    case atStart => exact ⟨0, rfl, by omega, HO.out, H.out, Chg.refl _ _⟩
    case round =>
      obtain ⟨m, rfl, hm, hb, hi, hc⟩ := hrel
      have A1 := hid hi
      have C1 := hid hc
      have B1 := hid hb
      have hbl := blockTo_len H.out.ok HJ.out m
      obtain ⟨ba, bc, hbs, _, _⟩ := owns_shape hb
      clear hi hc hb c0 c1
      by_cases hlt : m < D.pend.length
      · have hm2 : m < ps.length := by rw [HPL.out]; exact hlt
        obtain ⟨gp, cap, hv, p0, p1, pu⟩ := A1.out.pendAt (m := m) hlt hm2
        injection hv with e1 e2 e3
        subst e1 e3
        clear e2
        have HP := hid (H.out.ok.pend _ (List.getElem_mem hlt))
        have HST := hid (blockTo_step D j hlt)
        have PU : Hid (OwnB wr ps[m] D.pend[m].2) := pu
        have p0' : wr.cell? ⟨gp, m * 2, none⟩ = some (I D.pend[m].1) := p0
        clear pu p0
        generalize D.pend[m] = p at *
        generalize ps[m] = u at *
        clear hm2
        obtain ⟨ua, uc, rfl, _, _⟩ := owns_shape PU.out
        have hul := HP.out.2
        rw [hul] at p1 PU
        have N1 := hid ((Chg.refl (fun _ => False) wr).alloc (.cells #[.int .i64 p.1, .slice ua 64 uc] 98))
        by_cases heq : p.1 = j
        · have HE := hid heq
          rw [heq] at p0' N1
          clear heq
          go_wp2_with fail
          go_roundw
          case rel => exact ⟨m + 1, by go_num, by omega, by rw [HST.out, pick, if_pos HE.out]; have := PU.out.new N1.out; exact this, A1.out.new N1.out, C1.out.trans N1.out (fun _ _ e => e)⟩
          case measure => simp [intOf]; omega
        · have HE := hid heq
          have hne : ¬ ((p.1 : Int) = (j : Int)) := by omega
          go_wp2_with fail
          go_roundw
          case rel => exact ⟨m + 1, by go_num, by omega, by rw [HST.out, pick, if_neg HE.out]; exact B1.out.new N1.out, A1.out.new N1.out, C1.out.trans N1.out (fun _ _ e => e)⟩
          case measure => simp [intOf]; omega
      · obtain rfl : m = D.pend.length := by omega
        rw [blockTo_all] at B1 hbl
        have HBL := hid hbl
        have E1 := hid (own_empty (w := wr) wr.heap.size 5 (Nat.le_refl _))
        have RB := hid (show RdV (wr.alloc (.cells #[] 5)) _ (cellV (D.block j)) from (B1.out.rd).alloc _)
        have HCL := hid (show (cellV (D.block j)).length = 64 by simp [cellV, hbl])
        go_wp2_with (at_builtin; refine wpl_append (by rfl) _ _ 22 (by rfl) T22 rfl wr.heap.size _ [] (by rfl) E1.out _ (by rfl) (cellV (D.block j)) RB.out (cellO _) (by rw [HCL.out]; simp) (by rw [HCL.out]; simp [maxLen]) (by simp) ?_; intro v1 w1 hown hg; have HO1 := hid hown; have N1 := hid (((Chg.refl (fun _ => False) wr).alloc (.cells #[] 5)).grown hg (fun k hk hlt => absurd hlt (by simp [Value.ownBlock] at hk; omega))); clear hown hg)
        go_ret2
        refine ⟨.inl ⟨HR.out, v1, rfl, ?_⟩, ⟨_, _, _, _, _, A1.out.new N1.out⟩, C1.out.trans N1.out (fun _ _ e => e)⟩
        have h := HO1.out
        rw [List.nil_append, HCL.out] at h
        exact owns_base h C1.out.size
theorem rdI_chg {S : Nat → Prop} {w w' : World} {v : Value} {b : List Int} (h : RdI w v b) (c : Chg S w w') (hn : b ≠ [] → ∀ g, v.ownBlock = some g → ¬ S g) : RdI w' v b := by
  by_cases hb : b = []
  · subst hb
    obtain ⟨a, k, e, h1, h2, _⟩ := h
    exact ⟨a, k, e, h1, h2, fun j u hu => by simp at hu⟩
  · exact h.chg c (fun g hg _ => hn hb g hg)
abbrev Rdd (w : World) (xa : Option Addr) (xs : List Int) (xc : Nat) : Prop := RdI w (.slice xa xs.length xc) xs
theorem armR {S : Nat → Prop} {w : World} {d : Nat} {vL vP vK r : Value} {ls ps : List Value} {D : DevS} {xs : List Int} {b : Nat} (h : RefIs S w d vL vP vK ls ps D) (ho : w.ownsRow b 3 1 r (xs.map I).length (xs.map I)) :
    RefAt S (w.setCell ⟨d, 4, none⟩ r) d { D with keep := xs } ∧ Chg (Mut S rts w) w (w.setCell ⟨d, 4, none⟩ r) :=
  ⟨⟨vL, vP, r, ls, ps, h.fields vP r ps { D with keep := xs } rfl (chg_one w d 4 _) (heap_setCell_same w d 4 _ 45 _ h.dev) h.pend h.pb (owns_anybase ho) h.sp ⟨h.ok.cell, h.ok.pend, h.ok.most, h.ok.fuse, h.ok.few⟩⟩, h.set (Chg.refl _ w) 4 _⟩
set_option maxRecDepth 100000 in
set_option maxHeartbeats 4000000 in
theorem Arm_r {S : Nat → Prop} {w : World} {d : Nat} {D : DevS} (h : RefAt S w d D) (n : Int) (hm : n ≤ 9223372036854775807) (xv : Value) (xs : List Int) (hx : RdI w xv xs) (hxn : xs ≠ [] → ∀ k, xv.ownBlock = some k → ¬ Mut S rts w k) (hl : xs.length * 8 ≤ 140737488355320) :
    Calls Try.prog 58 #[.pointer (some ⟨d, 0, none⟩), I n, xv] w fun e w' => e = .returned (.tuple #[]) ∧ RefAt S w' d (D.arm n xs) ∧ Chg (Mut S rts w) w w' := by
  obtain ⟨vL, vP, vK, ls, ps, h⟩ := h
  have H := hid h
  have HX := hid hx
  have HXN := hid hxn
  have HM := hid hm
  obtain ⟨xa, xc, rfl⟩ := hx.shape
  have hxl : (xs.map I).length = xs.length := List.length_map _
  rw [hxl] at HX HXN ⊢
  obtain ⟨c0, c1, c2, c3, c4, cf⟩ := cells5 h.dev
  have LD := hid (lt_of_block h.dev)
  clear h hx hxn c0 c1 c2 hxl hm
  by_cases hneg : n < 0
  · have F1 := hid (H.out.setFuse 0 0 rfl (by omega))
    have Z := hid (show (max n 0).toNat = 0 by omega)
    go_enter Try.func58, Try.ntmps58
    go_upto_region 3 with fail
    generalize w.setCell ⟨d, 3, none⟩ _ = w1 at *
    have RX := hid (show Rdd w1 xa xs xc from rdI_chg HX.out F1.out.2 HXN.out)
    obtain ⟨_, _, _, _, k4, kf⟩ := cells5 F1.out.1.dev
    have E1 := hid (own_empty (w := w1) w1.heap.size 3 (Nat.le_refl _))
    have NA := hid ((Chg.refl (fun _ => False) w1).alloc (.cells #[] 3))
    clear c3 c4 cf
    go_wp2_with (at_builtin; refine wpl_append (by rfl) _ _ 24 (by rfl) T24 rfl w1.heap.size _ [] (by rfl) E1.out _ (by rfl) (xs.map I) (RX.out.alloc _) (by intro u hu; obtain ⟨z, _, rfl⟩ := List.mem_map.1 hu; rfl) (by rw [List.length_map]; simp; omega) (by rw [List.length_map]; simp [maxLen]; omega) (by simp) ?_; intro v5 w5 hown hg; have N5 := hid (NA.out.grown hg (fun k hk hlt => absurd hlt (by simp [Value.ownBlock] at hk; omega))); rw [List.nil_append] at hown; obtain ⟨ra, rc, rfl, _, _⟩ := owns_shape hown; have HO5 := hid hown; have x4 := N5.out.cell k4 (fun e => e); have xf := (cells5 (F1.out.1.new N5.out).dev).2.2.2.2.2; clear hown hg)
    go_end0
    have AE := armR (F1.out.1.new N5.out) HO5.out
    have e : D.arm n xs = { ({ D with fuse := 0 } : DevS) with keep := xs } := by unfold DevS.arm; rw [Z.out]
    rw [e]
    rw [List.length_map] at AE
    exact ⟨rfl, AE.1, (F1.out.2.tr (N5.out.mono fun _ _ e => e.elim)).tr AE.2⟩
  · obtain ⟨q, rfl⟩ : ∃ q : Nat, n = q := ⟨n.toNat, by omega⟩
    have F1 := hid (H.out.setFuse q q rfl (by have := HM.out; omega))
    have Z := hid (show (max (q : Int) 0).toNat = q by omega)
    go_enter Try.func58, Try.ntmps58
    go_upto_region 3 with fail
    generalize w.setCell ⟨d, 3, none⟩ _ = w1 at *
    have RX := hid (show Rdd w1 xa xs xc from rdI_chg HX.out F1.out.2 HXN.out)
    obtain ⟨_, _, _, _, k4, kf⟩ := cells5 F1.out.1.dev
    have E1 := hid (own_empty (w := w1) w1.heap.size 3 (Nat.le_refl _))
    have NA := hid ((Chg.refl (fun _ => False) w1).alloc (.cells #[] 3))
    clear c3 c4 cf
    go_wp2_with (at_builtin; refine wpl_append (by rfl) _ _ 24 (by rfl) T24 rfl w1.heap.size _ [] (by rfl) E1.out _ (by rfl) (xs.map I) (RX.out.alloc _) (by intro u hu; obtain ⟨z, _, rfl⟩ := List.mem_map.1 hu; rfl) (by rw [List.length_map]; simp; omega) (by rw [List.length_map]; simp [maxLen]; omega) (by simp) ?_; intro v5 w5 hown hg; have N5 := hid (NA.out.grown hg (fun k hk hlt => absurd hlt (by simp [Value.ownBlock] at hk; omega))); rw [List.nil_append] at hown; obtain ⟨ra, rc, rfl, _, _⟩ := owns_shape hown; have HO5 := hid hown; have x4 := N5.out.cell k4 (fun e => e); have xf := (cells5 (F1.out.1.new N5.out).dev).2.2.2.2.2; clear hown hg)
    go_end0
    have AE := armR (F1.out.1.new N5.out) HO5.out
    have e : D.arm (q : Int) xs = { ({ D with fuse := q } : DevS) with keep := xs } := by unfold DevS.arm; rw [Z.out]
    rw [e]
    rw [List.length_map] at AE
    exact ⟨rfl, AE.1, (F1.out.2.tr (N5.out.mono fun _ _ e => e.elim)).tr AE.2⟩
end Go.Proofs.Ytjlmbmamkhneiaa
