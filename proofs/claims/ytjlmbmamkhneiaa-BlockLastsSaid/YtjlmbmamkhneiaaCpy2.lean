/- The walk of the document's Copy. -/
import Derived.Test.YtjlmbmamkhneiaaCpy
import Derived.Test.YtjlmbmamkhneiaaGrp
import Derived.Deep.RegionHeld3
import Derived.Deep.RegionLaw
namespace Go.Proofs.Ytjlmbmamkhneiaa
open Go Go.RowKit
set_option linter.unusedVariables false
theorem H24 : GroupTy Try.prog 24 3 1 8 := ⟨Try.underlying24, let ⟨i, h1, h2, h3, h4⟩ := info_parts info3'; ⟨i, _, h1, h2, h3, h4, rfl⟩, by decide⟩
theorem H43 : GroupTy Try.prog 43 98 2 32 := ⟨Try.underlying43, let ⟨i, h1, h2, h3, h4⟩ := info_parts info98; ⟨i, _, h1, h2, h3, h4, rfl⟩, by decide⟩
theorem H22 : GroupTy Try.prog 22 5 1 1 := ⟨Try.underlying22, let ⟨i, h1, h2, h3, h4⟩ := info_parts info5; ⟨i, _, h1, h2, h3, h4, rfl⟩, by decide⟩
theorem H23 : GroupTy Try.prog 23 22 1 24 := ⟨Try.underlying23, let ⟨i, h1, h2, h3, h4⟩ := info_parts info22; ⟨i, _, h1, h2, h3, h4, rfl⟩, by decide⟩
/-- The document's copy in the midst. -/
structure KeptIs (base : Nat) (w : World) (k : Nat) (vE x1 x2 x3 x4 : Value) (ls : List Value) (bss : List (List UInt8)) : Prop where
  dev : w.heap[k]? = some (.cells #[vE, x1, x2, x3, x4] 45 (0, 0))
  hk : base ≤ k
  row : w.ownsRow base 22 1 vE ls.length ls
  len : ls.length = bss.length
  lb : ∀ (i : Nat) (v : Value) (b : List UInt8), ls[i]? = some v → bss[i]? = some b → w.ownsRow base 5 1 v b.length (b.map B)
section
variable {base k : Nat} {w w' : World} {vE x1 x2 x3 x4 : Value} {ls : List Value} {bss : List (List UInt8)}
theorem KeptIs.kept (h : KeptIs base w k vE x1 x2 x3 x4 ls bss) : KeptAt base w k bss := ⟨vE, x1, x2, x3, x4, ls, h.dev, h.hk, h.row, h.len, h.lb⟩
theorem KeptIs.new (h : KeptIs base w k vE x1 x2 x3 x4 ls bss) (c : New w w') : KeptIs base w' k vE x1 x2 x3 x4 ls bss :=
  ⟨(c.block k (lt_of_block h.dev) (fun e => e)).trans h.dev, h.hk, owns_new h.row c, h.len, fun i v b h1 h2 => owns_new (h.lb i v b h1 h2) c⟩
theorem pushK {w7 : World} {v7 u : Value} {b : List UInt8} (h : KeptIs base w k vE x1 x2 x3 x4 ls bss) (hg : w.grownBy w7 vE.ownBlock) (hown : w7.ownsRow base 22 1 v7 (ls.length + 1) (ls ++ [u])) (hu : w.ownsRow base 5 1 u b.length (b.map B)) :
    w7.cell? ⟨k, 0, none⟩ = some vE ∧ w7.frozen? ⟨k, 0, none⟩ = false ∧ KeptIs base (w7.setCell ⟨k, 0, none⟩ v7) k v7 x1 x2 x3 x4 (ls ++ [u]) (bss ++ [b]) := by
  have cg : Chg (Mut (fun g => vE.ownBlock = some g) [22] w) w w7 := (Chg.refl _ w).grown hg (fun g hk _ => by
    obtain ⟨_, _, c, hc⟩ := owns_block h.row hk
    exact .of hk hc (by simp))
  have e7 := cg.stays h.dev (by simp)
  obtain ⟨k0, _, _, _, _, kf⟩ := cells5 e7
  have e1 := heap_setCell_same w7 k 0 _ 45 v7 e7
  have cm : Chg (Mut (fun g => g = k) [45] w7) w7 (w7.setCell ⟨k, 0, none⟩ v7) := (chg_one w7 k 0 v7).mono fun g hk e => by subst e; exact .of rfl e7 (by simp)
  refine ⟨k0, kf 0, e1, h.hk, ?_, by simp [h.len], fun i x y hx hy => ?_⟩
  · rw [show (ls ++ [u]).length = ls.length + 1 by simp]
    exact cm.owns hown (by simp)
  · have hl := h.len
    by_cases hi : i < ls.length
    · rw [List.getElem?_append_left hi] at hx
      rw [List.getElem?_append_left (by omega)] at hy
      exact cm.owns (cg.owns (h.lb i x y hx hy) (by simp)) (by simp)
    · rw [List.getElem?_append_right (by omega)] at hx
      rw [List.getElem?_append_right (by omega)] at hy
      have e1 : i - ls.length = 0 := by have := (List.getElem?_eq_some_iff.1 hx).1; simp at this; omega
      rw [e1] at hx
      rw [show i - bss.length = 0 by omega] at hy
      simp at hx hy
      rw [← hx, ← hy]
      exact cm.owns (cg.owns hu (by simp)) (by simp)
end
set_option maxRecDepth 100000 in
set_option maxHeartbeats 16000000 in
theorem Copy_r {S : Nat → Prop} {w : World} {d : Nat} {D : DevS} (h : RefAt S w d D) (hp : D.pend = []) (hk : D.keep.length ≤ 12) :
    Calls Try.prog 26 #[.pointer (some ⟨d, 0, none⟩)] w fun e w' => ∃ k, e = .returned (.pointer (some ⟨k, 0, none⟩)) ∧ KeptAt w.heap.size w' k D.lasts ∧ New w w' := by
  obtain ⟨vL, vP, vK, ls, ps, h⟩ := h
  have H := hid h
  obtain ⟨c0, c1, c2, c3, c4, cf⟩ := cells5 h.dev
  obtain ⟨la, lc, rfl, hl1, hl2⟩ := owns_shape h.lasts
  have hll := h.lb.1
  rw [hll] at c0
  have hmost := h.ok.most
  clear h
  have KG := hid (show RdG w vK D.keep.length (D.keep.map I) by have := H.out.keep; rw [List.length_map] at this; exact RdG.of_owns this)
  have PG := hid (show RdG w vP 0 [] by have := H.out.pend; rw [hp] at this; exact RdG.of_owns this)
  have C2 := hid c2
  have C3 := hid c3
  have C4 := hid c4
  have C1 := hid c1
  go_enter Try.func26, Try.ntmps26
  go_upto_region 1 with fail
  go_cut [3] (fun s3 wx => ∃ k x1 x2 x3 x4, s3 = .pointer (some ⟨k, 0, none⟩) ∧ w.heap.size ≤ k ∧ New w wx ∧ wx.heap[k]? = some (.cells #[.slice none 0 0, x1, x2, x3, x4] 45 (0, 0)))
  case first =>
    go_region_held3 (fun w' => w'.cell? ⟨d, 2, none⟩ = some (.bool D.down) ∧ w'.cell? ⟨d, 3, none⟩ = some (I D.fuse) ∧ w'.cell? ⟨d, 4, none⟩ = some vK ∧ w'.cell? ⟨d, 1, none⟩ = some vP)
      (go_keep)
      (first
        | (refine step_append_fresh (P := Try.prog) (by rfl) (.tmp 14) (.tmp 18) 24 (by rfl) H24 D.keep.length _ (by rfl) vK (by rfl) (D.keep.map I) ?_ ?_ ?_ ?_ ?_; (refine RdG.new KG.out ?_; repeat (first | assumption | exact Chg.refl _ _ | refine Chg.alloc ?_ _ | refine Chg.drew ?_)); simp; omega; (simp [maxLen]; omega); intro a5 k5 w5 hn _; have N5 : New w w5 := Chg.trans (by repeat (first | assumption | exact Chg.refl _ _ | refine Chg.alloc ?_ _ | refine Chg.drew ?_)) hn (fun _ _ e => e); have q1 := N5.cell C1.out (fun e => e); have q2 := N5.cell C2.out (fun e => e); have q3 := N5.cell C3.out (fun e => e); have q4 := N5.cell C4.out (fun e => e); clear hn)
        | (refine step_append_fresh (P := Try.prog) (by rfl) (.tmp 20) (.tmp 24) 43 (by rfl) H43 0 _ (by rfl) vP (by rfl) [] ?_ ?_ ?_ ?_ ?_; (refine RdG.new PG.out ?_; repeat (first | assumption | exact Chg.refl _ _ | refine Chg.alloc ?_ _ | refine Chg.drew ?_)); simp; omega; (simp [maxLen]); intro a6 k6 w6 hn _; have N6 : New w w6 := Chg.trans (by repeat (first | assumption | exact Chg.refl _ _ | refine Chg.alloc ?_ _ | refine Chg.drew ?_)) hn (fun _ _ e => e); have r1 := N6.cell C1.out (fun e => e); have r2 := N6.cell C2.out (fun e => e); have r3 := N6.cell C3.out (fun e => e); have r4 := N6.cell C4.out (fun e => e); clear hn))
    all_goals go_wp2_with fail
    all_goals go_meet
    all_goals
      first
        | exact ⟨_, _, _, _, _, rfl, N6.size, N6.alloc _, heap_alloc_new _ _⟩
        | exact ⟨_, _, _, _, _, rfl, N5.size, N5.alloc _, heap_alloc_new _ _⟩
  case rest =>
    obtain ⟨k, x1, x2, x3, x4, rfl, hk0, hn, hbx⟩ := hcut
    have N0 := hid hn
    have K0 := hid (show KeptIs w.heap.size wc k (.slice none 0 0) x1 x2 x3 x4 [] (D.lasts.take 0) from ⟨hbx, hk0, World.ownsRow_nil _ _ _ _, rfl, fun i v b h => by simp at h⟩)
    have C0 := hid c0
    clear hn hbx c1 c2 c3 c4 cf hl1 hl2 KG PG C1 C2 C3 C4 hp hk
    have c0 := N0.out.cell C0.out (fun e => e)
    go_wp2_with fail
    go_loopw [33] (fun i wr => ∃ (m : Nat) (vE : Value) (ls' : List Value), i = .int .i64 m ∧ m ≤ D.lasts.length ∧ KeptIs w.heap.size wr k vE x1 x2 x3 x4 ls' (D.lasts.take m) ∧ New w wr) (fun i _ => D.lasts.length - (intOf i).toNat)
    case atStart => exact ⟨0, _, _, rfl, by omega, K0.out, N0.out⟩
    case round =>
      obtain ⟨m, vE, ls', rfl, hm, hK, hc⟩ := hrel
      have KR := hid hK
      have CR := hid hc
      clear c0
      by_cases hlt : m < D.lasts.length
      · obtain ⟨gl, cap, o, hvl, ho, hcl, hob⟩ := (H.out.new hc).lastAt hlt
        injection hvl with e1 e2 e3
        subst e1
        have hbl := H.out.ok.cell _ (List.getElem_mem hlt)
        obtain ⟨ba, bc, rfl, _, _⟩ := owns_shape hob
        rw [hbl] at hcl hob
        have OB := hid (show RdG wr (.slice ba 64 bc) 64 (D.lasts[m].map B) from by have h := RdG.of_owns hob; rw [hbl] at h; exact h)
        have HBL := hid hbl
        have TS := hid (take_snoc hlt)
        obtain ⟨k0, _, _, _, _, kf⟩ := cells5 hK.dev
        have hls : ls'.length = m := by rw [hK.len, List.length_take]; omega
        obtain ⟨ea, ec, rfl, _, _⟩ := owns_shape hK.row
        rw [hls] at k0 hK
        have HROW := hid (show wr.ownsRow w.heap.size 22 1 (.slice ea m ec) m ls' from by have h := hK.row; rw [hls] at h; exact h)
        have HLS := hid hls
        have KR := hid hK
        have K00 := hid k0
        have hka : ∀ o, (wr.alloc o).cell? ⟨k, 0, none⟩ = some (.slice ea m ec) := fun o => acell_lt k0 o
        have LW := hid (show w.heap.size ≤ wr.heap.size from hc.size)
        clear hK hc ho hob e2 e3 hbl hls kf
        go_upto_region 5 with fail
        go_region_law
          (first
            | (refine step_append_fresh (P := Try.prog) (by rfl) (.tmp 42) (.tmp 43) 22 (by rfl) H22 64 _ (by rfl) (.slice ba 64 bc) (by rfl) (D.lasts[m].map B) ?_ ?_ ?_ ?_ ?_; (refine RdG.new OB.out ?_; repeat (first | exact Chg.refl _ _ | refine Chg.alloc ?_ _ | refine Chg.drew ?_)); (rw [List.length_map, HBL.out]); omega; (simp [maxLen]); intro a5 c5 w5 hn ho; have N5 := hid (show New wr w5 from Chg.trans (by repeat (first | exact Chg.refl _ _ | refine Chg.alloc ?_ _ | refine Chg.drew ?_)) hn (fun _ _ e => e)); have O5 := hid (owns_base (b' := w.heap.size) (ho (by intro e; have := HBL.out; rw [← List.length_map (f := B), e] at this; simp at this)) (by have := LW.out; simp; omega)); have k5 := N5.out.cell K00.out (fun e => e); have k6 : ∀ o, (w5.alloc o).cell? ⟨k, 0, none⟩ = some (.slice ea m ec) := (fun o => acell_lt k5 o); clear hn ho)
            | (refine step_appendG (P := Try.prog) (by rfl) (.tmp 41) (.tmp 45) 23 (by rfl) H23 w.heap.size m 1 (.slice ea m ec) ls' (by rfl) ((owns_new HROW.out N5.out).alloc _) (.slice (some ⟨w5.heap.size, 0, none⟩) 1 1) (by rfl) [.slice a5 64 c5] (RdG.one w5 [.slice a5 64 c5] 22) (by rfl) (by intro u hu; simp at hu; rcases hu with rfl; rfl) (by omega) (by unfold maxLen; omega) (by have := LW.out; have := N5.out.size; simp; omega) ?_; intro v7 w7 hown hg; have PK := hid (pushK (b := D.lasts[m]) (KR.out.new (N5.out.alloc _)) hg (by rw [HLS.out]; exact hown) (by rw [HBL.out]; exact O5.out.alloc _)); obtain ⟨a7, c7, hv7, _, _⟩ := owns_shape hown; subst hv7; have G7 := hid (show New w7 w7 from Chg.refl _ _); have S7 := hid (show Chg (fun g => (Value.slice ea m ec).ownBlock = some g) w w7 from (CR.out.trans N5.out (fun _ _ e => e) |>.mono (fun _ _ e => e.elim)).trans (((Chg.refl _ w5).alloc _).grown hg (fun _ hk _ => hk)) (fun _ _ e => e)); have k7 := PK.out.1; have f7 := PK.out.2.1; clear hown hg))
        all_goals go_wp2_with fail
        all_goals go_roundw
        all_goals first
          | (show _ < _; simp [intOf]; omega)
          | skip
        all_goals
          refine ⟨m + 1, _, _, by go_num, by omega, by rw [TS.out]; exact PK.out.2.2, ?_⟩
          exact ((S7.out.mono (T := fun g => w.heap.size ≤ g) (fun g hg e => (owns_block HROW.out e).1)).setCell (p := ⟨k, 0, none⟩) (fun _ => hk0) _).mono (fun g hg e => absurd hg (Nat.not_lt.2 e))
      · obtain rfl : D.lasts.length = m := by omega
        rw [List.take_length] at hK
        have KK := hid hK.kept
        clear hK hc KR
        go_wp2_with fail
        go_ret
        exact ⟨k, rfl, KK.out, CR.out⟩
end Go.Proofs.Ytjlmbmamkhneiaa
