/- The walk of the Write of the document's device. -/
import Derived.Test.YtjlmbmamkhneiaaRac
import Derived.Test.YtjlmbmamkhneiaaZer
import Derived.Deep.RegionLaw
import Derived.Deep.AppendLies
namespace Go.Proofs.Ytjlmbmamkhneiaa
open Go Go.RowKit
set_option linter.unusedVariables false
theorem info98 : (Try.prog.info? 98).map (fun i => (i.zero, i.size, i.bytes)) = some (some (.agg #[.int .i64 0, .slice none 0 0]), 2, 32) := by kernel_rfl
theorem rd_chg {S : Nat → Prop} {w w' : World} {v : Value} {b : List UInt8} (h : Rd w v b) (c : Chg S w w') (hn : b ≠ [] → ∀ g, v.ownBlock = some g → ¬ S g) : Rd w' v b := by
  by_cases hb : b = []
  · subst hb
    obtain ⟨a, k, e, h1, h2, _⟩ := h
    exact ⟨a, k, e, h1, h2, fun j u hu => by simp at hu⟩
  · exact h.chg c (fun g hg _ => hn hb g hg)
theorem frz_new {w w' : World} (c : New w w') {d i : Nat} (hd : d < w.heap.size) (h : w.frozen? ⟨d, i, none⟩ = false) {o : Obj} : (w'.alloc o).frozen? ⟨d, i, none⟩ = false := by
  have e : (w'.alloc o).heap[d]? = w.heap[d]? := (Below.heap_alloc w' o d (Nat.lt_of_lt_of_le hd c.size)).trans (c.block d hd (fun e => e))
  simp only [World.frozen?] at h ⊢
  rw [e]; exact h
theorem pushR {S : Nat → Prop} {w3 w4 : World} {d gg cap : Nat} {vL vP vK : Value} {ls ps : List Value} {D : DevS} (h : RefIs S w3 d vL vP vK ls ps D) (p : Nat × List UInt8) (u : Value) (hp : p.1 < D.lasts.length ∧ p.2.length = 64) (hu : OwnB w3 u p.2) (hroom : D.pend.length < 1048576) (o : Obj)
    (hown : w4.ownsRow 0 98 2 (.slice (some ⟨gg, 0, none⟩) (D.pend.length + 1) cap) (D.pend.length + 1) (((D.pend.zip ps).map pairV).flatten ++ [I p.1, u])) (hg : ((w3.alloc o).drew).grownBy w4 vP.ownBlock) (hat : vP.ownBlock = some gg ∨ gg = w3.heap.size + 1)
    (hS : ∀ k, w3.heap.size ≤ k → S k) :
    RefAt S (w4.setCell ⟨d, 1, none⟩ (.slice (some ⟨gg, 0, none⟩) (D.pend.length + 1) cap)) d { D with pend := D.pend ++ [p] } ∧
      Chg (Mut S rts w3) w3 (w4.setCell ⟨d, 1, none⟩ (.slice (some ⟨gg, 0, none⟩) (D.pend.length + 1) cap)) := by
  have cg : Chg (Mut (fun k => vP.ownBlock = some k) [98] w3) w3 w4 := ((Chg.refl _ w3).alloc o).drew.grown hg (fun k hk _ => by
    obtain ⟨_, _, c, hc⟩ := owns_block h.pend hk
    exact .of hk hc (by simp))
  have h4 : RefIs S w4 d vL vP vK ls ps D → True := fun _ => trivial
  have e1 := heap_setCell_same w4 d 1 _ 45 (.slice (some ⟨gg, 0, none⟩) (D.pend.length + 1) cap) (cg.stays h.dev (by simp))
  have c2 : Chg (fun k => k = d) w4 (w4.setCell ⟨d, 1, none⟩ (.slice (some ⟨gg, 0, none⟩) (D.pend.length + 1) cap)) := chg_one w4 d 1 _
  have cm : Chg (Mut (fun k => k = d) [45] w4) w4 (w4.setCell ⟨d, 1, none⟩ (.slice (some ⟨gg, 0, none⟩) (D.pend.length + 1) cap)) := c2.mono fun k hk e => by subst e; exact .of rfl (cg.stays h.dev (by simp)) (by simp)
  have hpl := h.pl
  have ez : ((D.pend ++ [p]).zip (ps ++ [u])) = D.pend.zip ps ++ [(p, u)] := by rw [List.zip_append hpl.symm]; rfl
  refine ⟨⟨vL, .slice (some ⟨gg, 0, none⟩) (D.pend.length + 1) cap, vK, ls, ps ++ [u], ⟨e1, cm.owns (cg.owns h.lasts (by simp)) (by simp), (h.lb.chg cg (by simp)).chg cm (by simp), ?_, ?_, cm.owns (cg.owns h.keep (by simp)) (by simp), h.sd, h.sl, ?_, ⟨h.ok.cell, ?_, h.ok.most, h.ok.fuse, by simp; omega⟩⟩⟩, ?_⟩
  · have e : (((D.pend ++ [p]).zip (ps ++ [u])).map pairV).flatten = ((D.pend.zip ps).map pairV).flatten ++ [I p.1, u] := by rw [ez]; simp [pairV]
    have e2 : (((D.pend ++ [p]).zip (ps ++ [u])).map pairV).length = D.pend.length + 1 := by rw [ez]; simp [hpl]
    rw [show ({ D with pend := D.pend ++ [p] } : DevS).pend = D.pend ++ [p] from rfl, e, e2]
    exact cm.owns hown (by simp)
  · have := ((h.pb.chg cg (by simp)).chg cm (by simp)).snoc ((hu.chg cg (by simp)).chg cm (by simp))
    rw [show ({ D with pend := D.pend ++ [p] } : DevS).pend = D.pend ++ [p] from rfl, List.map_append]
    exact this
  · intro k hk
    cases hk
    rcases hat with e | e
    · exact h.sp _ e
    · exact hS _ (by show w3.heap.size ≤ gg; omega)
  · intro q hq
    rcases List.mem_append.1 hq with hq | hq
    · exact h.ok.pend q hq
    · rw [List.mem_singleton.1 hq]; exact hp
  · exact h.set (cg.mono fun k hk e => ⟨h.sp k e.1, let ⟨c, t, f, h1, h2⟩ := e.2; ⟨c, t, f, h1, by simp at h2; simp [h2]⟩⟩) 1 _
set_option maxRecDepth 100000 in
set_option maxHeartbeats 16000000 in
theorem Write_r {S : Nat → Prop} {w : World} {d : Nat} {D : DevS} (h : RefAt S w d D) (hS : ∀ k, w.heap.size ≤ k → S k) (i : Int) (v : Value) (b : List UInt8) (hb : Rd w v b) (hbn : b ≠ [] → ∀ k, v.ownBlock = some k → ¬ Mut S rts w k) (hroom : D.pend.length < 1048576) :
    Calls Try.prog 56 #[.pointer (some ⟨d, 0, none⟩), I i, v] w fun e w' => e = .returned (I (D.write i b).2) ∧ RefAt S w' d (D.write i b).1 ∧ Chg (Mut S rts w) w w' := by
  obtain ⟨vL, vP, vK, ls, ps, h⟩ := h
  have H := hid h
  have HB := hid hb
  have HBN := hid hbn
  have HS := hid hS
  obtain ⟨va, vc, rfl⟩ := hb.shape
  have hbl : (b.map B).length = b.length := List.length_map _
  have hbm : b.length ≤ maxLen := by
    obtain ⟨_, _, e, q1, q2, _⟩ := hb
    rw [List.length_map] at q1; omega
  unfold maxLen at hbm
  rw [hbl] at HB HBN ⊢
  obtain ⟨c0, c1, c2, c3, c4, cf⟩ := cells5 h.dev
  obtain ⟨la, lc, hvl, _, _⟩ := owns_shape h.lasts
  have hll := h.lb.1
  subst hvl
  rw [hll] at c0
  have hmost := h.ok.most
  unfold DevS.write
  rcases ready_is D i with hr | hr | ⟨hr, hi0, hi1, hdn⟩
  · have hdn : D.down = true := by
      unfold DevS.ready at hr
      cases hd : D.down
      · rw [hd, if_neg (by decide)] at hr; split at hr <;> cases hr
      · rfl
    rw [hdn] at c2
    rw [hr, if_pos (by decide)]
    clear h hb hbn hS hbl c0 c1 c3 c4 cf hr hdn hroom
    go_enter Try.func56, Try.ntmps56
    go_wp2
    go_ret
    exact ⟨rfl, ⟨_, _, _, _, _, H.out⟩, Chg.refl _ _⟩
  · have hdn : D.down = false ∧ ¬ (0 ≤ i ∧ i < D.lasts.length) := by
      unfold DevS.ready at hr
      cases hd : D.down
      · rw [hd, if_neg (by decide)] at hr; split at hr
        · cases hr
        · rename_i hh; exact ⟨rfl, hh⟩
      · rw [hd, if_pos rfl] at hr; cases hr
    obtain ⟨hdn, hout⟩ := hdn
    rw [hdn] at c2
    rw [hr, if_pos (by decide)]
    clear h hb hbn hS hbl c1 c3 c4 cf hr hdn hroom hll
    by_cases hneg : i < 0
    · go_enter Try.func56, Try.ntmps56
      go_wp2
      go_ret
      exact ⟨rfl, ⟨_, _, _, _, _, H.out⟩, Chg.refl _ _⟩
    · have hge : (D.lasts.length : Int) ≤ i := by omega
      clear hout
      go_enter Try.func56, Try.ntmps56
      go_wp2
      go_ret
      exact ⟨rfl, ⟨_, _, _, _, _, H.out⟩, Chg.refl _ _⟩
  · rw [hdn] at c2
    rw [hr, if_neg (by simp)]
    by_cases hlong : 64 < b.length
    · rw [if_pos hlong]
      clear h hb hbn hS hbl c1 c3 c4 cf hr hdn hroom hll
      go_enter Try.func56, Try.ntmps56
      go_wp2
      go_ret
      exact ⟨rfl, ⟨_, _, _, _, _, H.out⟩, Chg.refl _ _⟩
    · rw [if_neg hlong]
      have hb64 : b.length ≤ 64 := by omega
      obtain ⟨j, rfl⟩ : ∃ j : Nat, i = j := ⟨i.toNat, by omega⟩
      have A := act_r ⟨_, _, _, _, _, H.out⟩ hdn
      clear h hb hbn hS hbl c1 c3 c4 cf hr hdn hll hlong
      cases hact : D.act.2
      · rw [hact] at A
        rw [if_neg (by decide)]
        clear hact
        go_enter Try.func56, Try.ntmps56
        go_wp2_with fail
        refine A.mono ?_
        rintro e w' ⟨rfl, hd, hc⟩
        have HD := hid hd
        have HC := hid hc
        clear hd hc
        go_wp2_with fail
        go_ret
        exact ⟨rfl, HD.out, HC.out⟩
      · rw [hact] at A
        rw [if_pos rfl]
        obtain ⟨a1, a2, _, _⟩ := act_true hact
        have HL := hid a1
        have HP := hid a2
        clear hact a1 a2
        generalize D.act.1 = E at *
        go_enter Try.func56, Try.ntmps56
        go_wp2_with fail
        refine A.mono ?_
        rintro e w2 ⟨rfl, ⟨vL2, vP2, vK2, ls2, ps2, hd⟩, hc⟩
        obtain ⟨pa, pc, rfl, hp1, hp2⟩ := owns_shape hd.pend
        have hfew : E.pend.length < 1048576 := by rw [HP.out]; exact hroom
        have hzl := hd.zl
        rw [hzl] at hd
        have HD := hid hd
        have HC := hid hc
        have HROW := hid (show w2.ownsRow 0 98 2 (.slice pa E.pend.length pc) E.pend.length ((E.pend.zip ps2).map pairV).flatten by have := hd.pend; rw [hzl] at this; exact this)
        have LD := hid (lt_of_block hd.dev)
        have HNE := hid (show ∀ k, (Value.slice pa E.pend.length pc).ownBlock = some k → k ≠ d from fun k hk e => by
          obtain ⟨_, _, c, hc⟩ := owns_block HROW.out hk
          rw [e, hd.dev] at hc; simp at hc)
        obtain ⟨_, k1, _, _, _, kf⟩ := cells5 hd.dev
        have RB := hid (show Rd w2 (.slice va b.length vc) b from rd_chg HB.out hc HBN.out)
        clear hd hc hzl hp1 hp2 c0 c2
        go_upto_region 9 with fail
        have hk0 : ∀ o, (w2.alloc o).cell? ⟨d, 1, none⟩ = some (.slice pa E.pend.length pc) := fun o => acell_lt k1 o
        have K1 := hid k1
        have KF := hid kf
        have E1 := hid (own_empty (w := w2) w2.heap.size 5 (Nat.le_refl _))
        have NA := hid ((Chg.refl (fun _ => False) w2).alloc (.cells #[] 5))
        obtain ⟨i5, hi5, hz5, hs5, hb5⟩ := info_parts info5
        obtain ⟨i98, hi98, hz98, hs98, hb98⟩ := info_parts info98
        have hsub : IntKind.i64.wrap ((64 : Int) - (b.length : Int)) = ((64 - b.length : Nat) : Int) := by rw [IntKind.wrap_i64]; omega
        have HSUB := hid hsub
        clear hsub
        have LDD := LD.out
        have HLEN : Hid (∀ u : List Value, (b.map B ++ List.replicate (64 - b.length) (B 0)) = (pad b).map B) := fun _ => by unfold pad; rw [List.map_append, List.map_replicate]
        have PL := hid (pad_len hb64)
        go_region_law
          ((first
            | (refine step_append_rd (P := Try.prog) ?_ (.tmp 34) (.tmp 35) 22 ?_ T22 rfl w2.heap.size (.slice (some ⟨w2.heap.size, 0, none⟩) 0 0) [] ?_ E1.out.drew (.slice va b.length vc) ?_ (b.map B) ((RB.out.new NA.out).drew) (cellO b) (by rw [List.length_map]; simp; omega) (by rw [List.length_map]; simp [maxLen]; omega) (by simp [World.drew]) ?_; rfl; rfl; rfl; rfl; intro v5 w5 ho5 hg5; have N5 := hid (NA.out.drew.grown hg5 (fun k hk hlt => absurd hlt (by simp [Value.ownBlock] at hk; omega))); rw [List.nil_append, List.length_map] at ho5; have O5 := hid ho5; have k5 := N5.out.cell K1.out (fun e => e); clear ho5 hg5)
            | (refine step_append_zeros (P := Try.prog) ?_ (.tmp 36) (.tmp 39) 22 3 ?_ w2.heap.size 5 i5 _ (B 0) .i64 Try.underlying22 Try.underlying3 hi5 hz5 hs5 hb5 rfl rfl v5 b.length (b.map B) ?_ O5.out (64 - b.length) (by omega) (IntKind.i64.wrap (64 - (b.length : Int))) ?_ HSUB.out (by omega) N5.out.size ?_; rfl; rfl; rfl; rfl; intro v6 w6 ho6 hg6; have N6 := hid (N5.out.grown hg6 (fun k hk hlt => absurd hlt (by have := (owns_block O5.out hk).1; omega))); rw [HLEN.out []] at ho6; rw [List.length_map, PL.out] at ho6; obtain ⟨g6, c6, hv6, _, _⟩ := World.ownsRow.form ho6 (by omega); subst hv6; have O6 := hid ho6; have k6 := N6.out.cell K1.out (fun e => e); have k7 : ∀ o, (w6.alloc o).cell? ⟨d, 1, none⟩ = some (.slice pa E.pend.length pc) := (fun o => acell_lt (N6.out.cell K1.out (fun e => e)) o); clear ho6 hg6)
            | (refine step_append_lies _ (by rfl) _ _ _ (by rfl) 0 98 i98 _ 2 32 Try.underlying43 hi98 hz98 hs98 hb98 rfl (by omega) _ _ _ (by rfl) ((owns_new HROW.out N6.out).alloc _) ⟨w6.heap.size, 0, none⟩ 1 1 [I j, .slice (some ⟨g6, 0, none⟩) 64 c6] (by rfl) (by rfl) (World.news_of_block (cs := #[I j, .slice (some ⟨g6, 0, none⟩) 64 c6]) (t := 98) (fr := (0, 0)) (heap_alloc_new w6 _)) (by intro u hu; simp at hu; rcases hu with rfl | rfl <;> rfl) (by omega) (by unfold maxLen; omega) (by omega) (by omega) (w6.heap.size + 1) (by simp) ?_; intro gg cap w7 hown1 hgrow hat hlt1; have N7 := hid (And.intro hown1 (And.intro hgrow hat)); have hk7 := (hgrow.cell_far ⟨d, 1, none⟩ (by have := N6.out.size; simp; omega) (fun e => HNE.out d e.symm rfl)).trans (k7 _); have hkf := (hgrow.frozen_far ⟨d, 1, none⟩ (by have := N6.out.size; simp; omega) (fun e => HNE.out d e.symm rfl)).trans (frz_new N6.out LD.out (KF.out 1)); clear hown1 hgrow hat hlt1)))
        all_goals go_wp2_with fail
        all_goals go_ret
        all_goals
          have hj : j < E.lasts.length := by rw [HL.out]; omega
          have ob : OwnB w6 (.slice (some ⟨g6, 0, none⟩) 64 c6) (pad b) := by unfold OwnB; rw [PL.out]; exact owns_base O6.out (Nat.zero_le _)
          have PN := pushR (HD.out.new N6.out) (j, pad b) _ ⟨hj, PL.out⟩ ob hfew _ N7.out.1 ⟨N7.out.2.1.os, N7.out.2.1.tape, N7.out.2.1.output, N7.out.2.1.size, N7.out.2.1.block⟩ N7.out.2.2 (fun k hk => HS.out k (Nat.le_trans (Nat.le_trans HC.out.size N6.out.size) hk))
          exact ⟨rfl, PN.1, (HC.out.tr (N6.out.mono fun _ _ e => e.elim)).tr PN.2⟩
end Go.Proofs.Ytjlmbmamkhneiaa
