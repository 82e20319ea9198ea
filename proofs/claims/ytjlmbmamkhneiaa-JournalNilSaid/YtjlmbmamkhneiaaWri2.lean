/- The walk of a device's Write. -/
import Derived.Test.YtjlmbmamkhneiaaWri
import Derived.Outline
import Derived.Deep.DeepCutAuto
namespace Go.Proofs.Ytjlmbmamkhneiaa
open Go Go.RowKit
set_option linter.unusedVariables false
attribute [local go_sem ↓] load90_fold load92_fold store90_fold store92_fold alloc90_fold alloc92_fold build92_fold bslice85_fold
theorem ready_is (D : DevS) (i : Int) : D.ready i = 9 ∨ D.ready i = 7 ∨ (D.ready i = 0 ∧ 0 ≤ i ∧ i < D.lasts.length ∧ D.down = false) := by
  unfold DevS.ready
  cases hd : D.down
  · by_cases h : 0 ≤ i ∧ i < D.lasts.length
    · right; right; exact ⟨by rw [if_neg (by decide), if_pos h], h.1, h.2, rfl⟩
    · right; left; rw [if_neg (by decide), if_neg h]
  · left; rfl
theorem lt_of_cell' {w : World} {a : Addr} {u : Value} (h : w.cell? a = some u) : a.block < w.heap.size := block_lt_of_cell h
theorem oneC {A : Array Value} (h : A.all (·.oneCell') = true) : ∀ u ∈ A.toList, u.oneCell' = true := fun u hu => (Array.all_eq_true_iff_forall_mem.1 h) u (by simpa using hu)
theorem act_true {D : DevS} (h : D.act.2 = true) : D.act.1.lasts = D.lasts ∧ D.act.1.pend = D.pend ∧ D.act.1.down = D.down ∧ D.act.1.keep = D.keep := by
  unfold DevS.act at h ⊢
  split
  · exact ⟨rfl, rfl, rfl, rfl⟩
  · split
    · exact ⟨rfl, rfl, rfl, rfl⟩
    · rename_i h1 h2; rw [if_neg h1, if_neg h2] at h; cases h
set_option maxRecDepth 100000 in
set_option maxHeartbeats 4000000 in
theorem Write_t {S : Nat → Prop} {w : World} {d : Nat} {D : DevS} (h : DevAt S w d D) (hS : ∀ k, w.heap.size ≤ k → S k) (i : Int) (v : Value) (b : List UInt8) (hb : Rd w v b) (hbn : b ≠ [] → ∀ k, v.ownBlock = some k → ¬ Mut S pts w k) (hroom : D.pend.length < 1048576) :
    Calls Try.prog 16 #[.pointer (some ⟨d, 0, none⟩), I i, v] w fun e w' => e = .returned (I (D.write i b).2) ∧ DevAt S w' d (D.write i b).1 ∧ Chg (Mut S pts w) w w' := by
  obtain ⟨g, vP, vK, h⟩ := h
  have H := hid h
  have HB := hid hb
  have HBN := hid hbn
  have HS := hid hS
  obtain ⟨va, vc, rfl⟩ := hb.shape
  have hbl : (b.map B).length = b.length := List.length_map _
  have hbm : b.length ≤ maxLen := by
    obtain ⟨_, _, e, q1, q2, _⟩ := hb
    rw [List.length_map] at q1; omega
  unfold maxLen at hbm
  rw [hbl] at HB HBN ⊢
  have R := ready_t h i
  unfold DevS.write
  clear h hb hbn hS hbl
  rcases ready_is D i with hr | hr | ⟨hr, hi0, hi1, hdn⟩
  · rw [hr] at R ⊢
    clear hr
    go_enter Try.func16, Try.ntmps16
    go_wp2_with fail
    refine R.mono ?_
    rintro e w' ⟨rfl, rfl⟩
    go_wp2_with fail
    go_ret
    exact ⟨rfl, ⟨_, _, _, H.out⟩, Chg.refl _ _⟩
  · rw [hr] at R ⊢
    clear hr
    go_enter Try.func16, Try.ntmps16
    go_wp2_with fail
    refine R.mono ?_
    rintro e w' ⟨rfl, rfl⟩
    go_wp2_with fail
    go_ret
    exact ⟨rfl, ⟨_, _, _, H.out⟩, Chg.refl _ _⟩
  · rw [hr] at R ⊢
    clear hr hdn
    rw [if_neg (by simp)]
    by_cases hlong : 64 < b.length
    · rw [if_pos hlong]
      go_enter Try.func16, Try.ntmps16
      go_wp2_with fail
      refine R.mono ?_
      rintro e w' ⟨rfl, rfl⟩
      go_wp2_with fail
      go_ret
      exact ⟨rfl, ⟨_, _, _, H.out⟩, Chg.refl _ _⟩
    · rw [if_neg hlong]
      have hb64 : b.length ≤ 64 := by omega
      clear hlong
      obtain ⟨j, rfl⟩ : ∃ j : Nat, i = j := ⟨i.toNat, by omega⟩
      have A := act_t ⟨_, _, _, H.out⟩
      cases hact : D.act.2
      · rw [hact] at A
        rw [if_neg (by decide)]
        clear hact
        go_enter Try.func16, Try.ntmps16
        go_wp2_with fail
        refine R.mono ?_
        rintro e w' ⟨rfl, rfl⟩
        go_wp2_with fail
        refine A.mono ?_
        rintro e w' ⟨rfl, hd, hc⟩
        have HD := hid hd
        have HC := hid hc
        clear hd hc
        go_wp2_with fail
        go_ret
        exact ⟨rfl, HD.out, HC.out⟩
      · rw [hact] at A
        rw [if_pos rfl]
        obtain ⟨a1, a2, _, _⟩ := act_true hact
        have HL := hid a1
        have HP := hid a2
        clear hact a1 a2
        generalize D.act.1 = E at *
        go_enter Try.func16, Try.ntmps16
        go_wp2_with fail
        refine R.mono ?_
        rintro e w' ⟨rfl, rfl⟩
        go_wp2_with fail
        refine A.mono ?_
        rintro e w2 ⟨rfl, ⟨g2, vP2, vK2, hd⟩, hc⟩
        have HD := hid hd
        have HC := hid hc
        clear hd hc
        obtain ⟨pa, pc, rfl, hp1, hp2⟩ := owns_shape HD.out.pend
        have hpl : (E.pend.map writeV).length = E.pend.length := List.length_map _
        have hfew : E.pend.length < 1048576 := by rw [HP.out]; exact hroom
        rw [hpl] at HD hp1
        have HROW := hid (show w2.ownsRow 0 92 65 (.slice pa E.pend.length pc) E.pend.length (E.pend.map writeV).flatten by rw [← hpl]; rw [hpl]; have := HD.out.pend; rw [hpl] at this; exact this)
        clear hpl hp1 hp2
        have q1 := run_build92 j
        have q2 := run_alloc92
        have q3 := fun w => run_store92_new w (j, blank) rfl
        have G1 := hid (show (b.map B).length = Nat.min b.length 64 by rw [List.length_map]; exact (Nat.min_eq_left hb64).symm)
        have G2 := hid (show ∀ (W : World) (j : Nat) (u : Value), (b.map B)[j]? = some u → ∃ ad, va = some ad ∧ w2.cell? (ad.add j) = some u from fun W j u hu => by
          have hrd := HB.out.chg HC.out (fun k hk _ => HBN.out (by rintro rfl; simp at hu) k hk)
          obtain ⟨_, _, e, _, _, hcell⟩ := hrd
          injection e with e1 e2 e3
          obtain ⟨gg, off, rfl, hc⟩ := hcell j u hu
          exact ⟨_, e1, by rw [Addr.add_mid]; exact hc⟩)
        have G4 := hid (show ∀ v ∈ b.map B, v.oneCell' = true by intro v hv; obtain ⟨c, _, rfl⟩ := List.mem_map.1 hv; rfl)
        have G5 := hid (show 1 + (b.map B).length ≤ (writeV (j, blank)).length by simp [writeV, blank]; omega)
        go_upto_region 10 with (refine wpl_copy_row (by rfl) (.tmp 24) (.tmp 25) 22 22 (by rfl) 5 Try.underlying22 size5 w2.heap.size 1 64 64 va b.length vc (by rfl) (by rfl) (writeV (j, blank)) 92 (heap_alloc_new _ _) (b.map B) G1.out (fun j u hu => let ⟨ad, h1, h2⟩ := G2.out w2 j u hu; ⟨ad, h1, (World.cell?_alloc_lt _ _ _ (lt_of_cell' h2)).trans h2⟩) G5.out G4.out ?_; intro w3 hw3; rw [World.setRow_alloc_new, splice_pad _ _ hb64] at hw3; have W3 := hid hw3; clear hw3)
        have D3 := hid (show DevIs S w3 d g2 (.slice pa E.pend.length pc) vK2 E by rw [W3.out]; exact HD.out.alloc _)
        have B3 := hid (show w3.heap[w2.heap.size]? = some (.cells (writeV (j, pad b)).toArray 92 (0, 0)) by rw [W3.out]; exact heap_alloc_new _ _)
        have O3 := hid (show w3.ownsRow 0 92 65 (.slice pa E.pend.length pc) E.pend.length (E.pend.map writeV).flatten by rw [W3.out]; exact HROW.out.alloc _)
        have C3 := hid (show Chg (Mut S pts w) w w3 by rw [W3.out]; exact HC.out.alloc _)
        have HPL := hid (pad_len hb64)
        have WR3 : Hid (WrAt w3 w2.heap.size (j, pad b)) := ⟨B3.out⟩
        have hl1 : (load92 (.pointer (some ⟨w2.heap.size, 0, none⟩))).run Try.prog w3.drew = .ok (.agg (writeV (j, pad b)).toArray) w3.drew :=
          run_load92 (w := w3.drew) (fun i u hu => by rw [Nat.zero_add]; exact (cell_of_row w3 _ _ _ _ _ B3.out).trans (by simpa using hu)) HPL.out
        have hbs := fun w => run_bslice85 w (j, pad b) HPL.out
        have HA1 := hid (writeA (j, pad b) HPL.out)
        have HA2 := hid (show (writeV (j, pad b)).length = 1 * 65 by simp [writeV, HPL.out])
        have HNE := hid D3.out.nep
        have LD := hid (lt_of_block D3.out.dev)
        obtain ⟨i92, hi92, hz92, hs92, hb92⟩ := info_parts info92
        obtain ⟨c0, c1, c2, c3, c4, cf⟩ := cells5 D3.out.dev
        clear c0 c2 c3 c4 q1 q2 q3
        have HAL := hid (show (writeV (j, pad b)).toArray.toList = writeV (j, pad b) from rfl)
        generalize (writeV (j, pad b)).toArray = A at hl1 hbs HAL HA1
        rw [HAL.out.symm] at HA2
        have hc1 : ∀ o, (w3.alloc o).cell? ⟨d, 1, none⟩ = some (.slice pa E.pend.length pc) := fun o => (World.cell?_alloc_lt _ _ _ LD.out).trans c1
        have hz3 : ∀ o, (w3.alloc o).heap.size = w3.heap.size + 1 := fun o => World.size_alloc _ _
        have LDD := LD.out
        go_region_law ((refine step_append_lies _ (by rfl) _ _ _ (by rfl) 0 92 i92 _ 65 72 Try.underlying85 hi92 hz92 hs92 hb92 rfl (by omega) _ _ _ (by rfl) ((O3.out.alloc _).drew) ⟨w3.heap.size, 0, none⟩ 1 1 A.toList (by rfl) HA2.out (World.news_of_block (cs := A) (t := 92) (fr := (0, 0)) (heap_alloc_new w3 _)) (oneC HA1.out.2.2) (by omega) (by unfold maxLen; omega) (by omega) (by omega) (w3.heap.size + 1) (by simp) ?_; intro gg cap w4 hown1 hgrow hat hlt1; have N4 := hid (And.intro hown1 (And.intro hgrow hat)); have hk1 := (hgrow.cell_far ⟨d, 1, none⟩ (by simp; omega) (fun e => (HNE.out d e.symm).1 rfl)).trans (hc1 _); have hkf := (hgrow.frozen_far ⟨d, 1, none⟩ (by simp; omega) (fun e => (HNE.out d e.symm).1 rfl)).trans ((World.frozen?_alloc_past _ _ _ LDD).trans (cf 1)); clear hown1 hgrow hat hlt1))
        all_goals go_wp2_with fail
        all_goals go_ret
        all_goals
          have hj : j < E.lasts.length := by rw [HL.out]; omega
          have PN := push_new D3.out (j, pad b) ⟨hj, HPL.out⟩ hfew _ (by rw [← HAL.out]; exact N4.out.1) N4.out.2.1 N4.out.2.2 (fun k hk => HS.out k (Nat.le_trans C3.out.size hk))
          exact ⟨rfl, ⟨_, _, _, PN.1⟩, C3.out.tr PN.2⟩
end Go.Proofs.Ytjlmbmamkhneiaa
