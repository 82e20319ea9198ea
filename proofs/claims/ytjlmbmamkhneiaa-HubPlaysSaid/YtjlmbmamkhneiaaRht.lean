/- The walk of the Take of the document's hub. -/
import Derived.Test.YtjlmbmamkhneiaaRhp
namespace Go.Proofs.Ytjlmbmamkhneiaa
open Go Go.RowKit
set_option linter.unusedVariables false
theorem BufAt.tail {w : World} {a : Option Addr} {n c : Nat} {z : Int} {zs : List Int} (h : BufAt w (.slice a n c) (z :: zs)) :
    ∃ g off, a = some ⟨g, off, none⟩ ∧ n = zs.length + 1 ∧ n ≤ c ∧ c ≤ maxLen ∧ w.cell? ⟨g, off, none⟩ = some (I z) ∧ BufAt w (.slice (if c = 1 then some ⟨g, off, none⟩ else some ⟨g, off + 1, none⟩) zs.length (c - 1)) zs := by
  obtain ⟨⟨a', c', e, h1, h2, h3⟩, ht⟩ := h
  injection e with ea en ec
  subst ea; subst ec
  obtain ⟨g, off, rfl, hc⟩ := h3 0 (I z) rfl
  simp at h1 en
  obtain ⟨cs, fr, hg⟩ := ht g rfl
  refine ⟨g, off, rfl, en, by omega, h2, hc, ⟨_, _, by rw [List.length_map], by rw [List.length_map]; omega, by omega, fun j u hu => ?_⟩, fun g' hg' => ?_⟩
  · obtain ⟨g', off', e', hc'⟩ := h3 (j + 1) u (by simpa using hu)
    injection e' with e'
    injection e' with e1 e2
    subst e1; subst e2
    have hj := (List.getElem?_eq_some_iff.1 hu).1
    rw [List.length_map] at hj
    rw [if_neg (by omega)]
    exact ⟨g, off + 1, rfl, by rw [show off + 1 + j = off + (j + 1) by omega]; exact hc'⟩
  · have : g = g' := by
      split at hg'
      · cases hg'; rfl
      · cases hg'; rfl
    subst this; exact ⟨cs, fr, hg⟩
theorem BufAt.len {w : World} {a : Option Addr} {n c : Nat} {zs : List Int} (h : BufAt w (.slice a n c) zs) : n = zs.length := by
  obtain ⟨⟨a', c', e, _⟩, _⟩ := h
  injection e with _ en _
  rw [en, List.length_map]
theorem owns_base0 {w : World} {b : Nat} {e : TypeId} {size n : Nat} {v : Value} {xs : List Value} (h : w.ownsRow b e size v n xs) : w.ownsRow 0 e size v n xs := by
  refine ⟨h.1, ?_⟩
  rcases h.2 with hn | ⟨g, cap, cur, hv, _, r⟩
  · exact .inl hn
  · exact .inr ⟨g, cap, cur, hv, Nat.zero_le _, r⟩
theorem RHub.head {w : World} {g cap : Nat} {vs : List Value} {T : List TapS} (h : RHub w (.slice (some ⟨g, 0, none⟩) T.length cap) vs T) {i : Nat} (hi : i < T.length) {u : Value} (hu : vs[i]? = some u) : w.cell? ⟨g, i * 3, none⟩ = some u := by
  obtain ⟨g', cap', u', hv, k0, _, _, _, hu'⟩ := h.at hi
  rw [hu] at hu'
  cases hu'
  injection hv with ea
  injection ea with ea
  injection ea with ea
  rw [ea]; exact k0
set_option maxRecDepth 100000 in
set_option maxHeartbeats 16000000 in
theorem Take_r {w : World} {v : Value} {vs : List Value} {H : HubS} (h : RHub w v vs H.taps) (hfew : H.taps.length ≤ 16) (k : Int) :
    Calls Try.prog 76 #[.agg #[v, I H.room], I k] w fun e w' => ∃ v' vs', e = .returned (.tuple #[.agg #[v', I H.room], I (H.take k).2.1, .bool (H.take k).2.2]) ∧ RHub w' v' vs' (H.take k).1.taps ∧ New w w' := by
  have R0 := hid h
  obtain ⟨la, lc, rfl, hl1, hl2⟩ := owns_shape h.row
  have n2 : ∀ o o', New w ((w.alloc o).alloc o') := fun o o' => ((Chg.refl _ w).alloc o).alloc o'
  by_cases hk : 0 ≤ k ∧ k < H.taps.length
  · obtain ⟨i, rfl⟩ : ∃ i : Nat, k = i := ⟨k.toNat, by omega⟩
    have hi : i < H.taps.length := by omega
    obtain ⟨g, cap, u, hv, k0, k1, k2, hb, hvu⟩ := h.at hi
    injection hv with ea en ec
    subst ea
    obtain ⟨ua, uc, rfl⟩ := hb.1.shape
    have HB := hid hb
    have HE := hid (show H.take i = if H.taps[i].buf.isEmpty then (H, 0, false) else (H.put i H.taps[i].took, H.taps[i].buf.headD 0, true) by
      rw [HubS.take, if_pos hk, Int.toNat_natCast, List.getElem?_eq_getElem hi])
    have HT := hid (show H.taps[i] = ⟨H.taps[i].op, H.taps[i].buf, H.taps[i].missed⟩ from rfl)
    have HVU := hid hvu
    rw [List.length_map] at k0 HB HVU
    have hka : ∀ o o', ((w.alloc o).alloc o').cell? ⟨g, i * 3, none⟩ = some (.slice ua H.taps[i].buf.length uc) := fun o o' => acell (acell k0 o) o'
    generalize hbuf : H.taps[i].buf = buf at *
    have HBUF := hid hbuf
    clear h hb en ec hk hbuf hvu k0 k1 k2
    cases buf with
    | nil =>
      rw [HE.out]
      rw [List.length_nil] at hka
      have R1 := hid (fun o o' => R0.out.new (n2 o o'))
      have N2 := hid n2
      clear n2
      go_enter Try.func76, Try.ntmps76
      go_wp2_with fail
      refine bodyPost_ret (results_row2 rfl _ _ (w.heap.size + 1) 73 #[.slice (some ⟨g, 0, none⟩) H.taps.length lc, .int .i64 H.room] (0, 0) _ rfl (heap_alloc2_new w _ _) Try.underlying73 rfl (by kernel_rfl)) rfl (by first | exact ⟨_, vs, rfl, R1.out _ _, N2.out _ _⟩ | exact ⟨_, rfl, ⟨vs, R1.out _ _⟩, N2.out _ _⟩)
    | cons z rest =>
      obtain ⟨gu, ou, rfl, _, hc1, hc2, hz, hrest⟩ := HB.out.tail
      have REST := hid hrest
      have N2 := hid n2
      rw [HE.out]
      have hkb : ∀ o o', ((w.alloc o).alloc o').cell? ⟨gu, ou, none⟩ = some (I z) := fun o o' => acell (acell hz o) o'
      rw [List.length_cons] at hka hc1
      unfold maxLen at hc2
      have ROW := hid (show RdG w (.slice (some ⟨g, 0, none⟩) H.taps.length lc) H.taps.length ((vs.zip H.taps).map tapV).flatten from RdG.of_owns R0.out.row)
      have ZL := hid R0.out.fl
      clear hz hrest n2
      have hq1 : ((rest.length : Int) + 1 == 0) = false := by rw [beq_eq_false_iff_ne]; omega
      have hq2 : decide ((i : Int) < 0) = false := decide_eq_false (by omega)
      have hq3 : decide (H.taps.length ≤ i) = false := decide_eq_false (by omega)
      go_enter Try.func76, Try.ntmps76
      go_upto_region 3 with fail
      clear hq1 hq2 hq3
      have hBX := hid (heap_alloc2_old w (.cells #[.slice (some ⟨g, 0, none⟩) H.taps.length lc, I H.room] 73) (.cells #[.slice none 0 0, .int .i64 0] 73))
      have hRS := hid (heap_alloc2_new w (.cells #[.slice (some ⟨g, 0, none⟩) H.taps.length lc, I H.room] 73) (.cells #[.slice none 0 0, .int .i64 0] 73))
      have N2' := hid (N2.out (.cells #[.slice (some ⟨g, 0, none⟩) H.taps.length lc, I H.room] 73) (.cells #[.slice none 0 0, .int .i64 0] 73))
      have ka := hka (.cells #[.slice (some ⟨g, 0, none⟩) H.taps.length lc, I H.room] 73) (.cells #[.slice none 0 0, .int .i64 0] 73)
      have kb := hkb (.cells #[.slice (some ⟨g, 0, none⟩) H.taps.length lc, I H.room] 73) (.cells #[.slice none 0 0, .int .i64 0] 73)
      have ZW := hid (show ((w.alloc (.cells #[.slice (some ⟨g, 0, none⟩) H.taps.length lc, I H.room] 73)).alloc (.cells #[.slice none 0 0, .int .i64 0] 73)).heap.size = w.heap.size + 2 by simp)
      generalize (w.alloc (.cells #[.slice (some ⟨g, 0, none⟩) H.taps.length lc, I H.room] 73)).alloc (.cells #[.slice none 0 0, .int .i64 0] 73) = W2 at *
      obtain ⟨x0, x1, xf⟩ := cells2 hBX.out
      have xa : ∀ o, (W2.alloc o).cell? ⟨w.heap.size, 0, none⟩ = some (.slice (some ⟨g, 0, none⟩) H.taps.length lc) := fun o => acell x0 o
      have E0 := hid (own_none (e := 80) (size := 3) (heap_alloc_new W2 (.cells #[] 80)) (Nat.le_refl _))
      have HI := hid (show 0 < H.taps.length from Nat.lt_of_le_of_lt (Nat.zero_le _) hi)
      have ONE := hid R0.out.one
      have KA := hid ka
      have KB := hid kb
      clear hka hkb
      go_upto_region 6 with (at_builtin; refine wpl_appendG (by rfl) _ _ 71 (by rfl) G71 W2.heap.size 0 H.taps.length (.slice (some ⟨W2.heap.size, 0, none⟩) 0 0) [] (by rfl) E0.out (.slice (some ⟨g, 0, none⟩) H.taps.length lc) (by rfl) _ (ROW.out.new (N2'.out.alloc _)) ZL.out ONE.out (by omega) (by unfold maxLen; omega) (by simp) ?_; intro v5 w5 hown hg; rw [List.nil_append, Nat.zero_add] at hown; obtain ⟨g5, cc5, hv5, hg5, _⟩ := World.ownsRow.form hown HI.out; subst hv5; have N5 := hid (show New W2 w5 from ((Chg.refl _ W2).alloc _).grown hg (fun k hk hlt => absurd hlt (by simp [Value.ownBlock] at hk; omega))); have R5 := hid (R0.out.copy (owns_base0 hown) (Stay.new (N2'.out.trans N5.out (fun _ _ e => e)))); have c5 := R5.out.head hi HVU.out; have f5 := World.ownsRow.frozenAt hown (i * 3); have z5 := N5.out.cell KB.out (fun e => e); have BX5 := hid ((N5.out.block _ (lt_of_block hBX.out) (fun e => e)).trans hBX.out); have RS5 := hid ((N5.out.block _ (lt_of_block hRS.out) (fun e => e)).trans hRS.out); obtain ⟨y0, y1, yf⟩ := cells2 BX5.out; have HG5 := hid hg5; have O5 := hid hown; clear hown hg hg5)
      clear c5 f5 z5 y0 y1 yf x0 x1 xf xa
      have e5 := (owns_block O5.out (g := g5) rfl).2.2
      obtain ⟨cs5, hcs5⟩ := e5
      have hne0 : w.heap.size ≠ g5 := by rintro rfl; rw [BX5.out] at hcs5; simp at hcs5
      have hne1 : w.heap.size + 1 ≠ g5 := by rintro rfl; rw [RS5.out] at hcs5; simp at hcs5
      have PUT := hid (R5.out.put (i := i) (j := 0) (t' := H.taps[i].took) (u' := .slice (if uc = 1 then some ⟨gu, ou, none⟩ else some ⟨gu, ou + 1, none⟩) rest.length (uc - 1)) hi (by omega) (.slice (if uc = 1 then some ⟨gu, ou, none⟩ else some ⟨gu, ou + 1, none⟩) rest.length (uc - 1)) HVU.out rfl (by
        show BufAt w5 _ (H.taps[i].buf.drop 1)
        rw [HBUF.out]
        exact REST.out.stay (ts := [3]) (.new (N2'.out.trans N5.out (fun _ _ e => e))) (by simp)))
      have BX6 := hid ((heap_setCell_other w5 ⟨g5, i * 3, none⟩ _ (.slice (if uc = 1 then some ⟨gu, ou, none⟩ else some ⟨gu, ou + 1, none⟩) rest.length (uc - 1)) hne0).trans BX5.out)
      have RS6 := hid ((heap_setCell_other w5 ⟨g5, i * 3, none⟩ _ (.slice (if uc = 1 then some ⟨gu, ou, none⟩ else some ⟨gu, ou + 1, none⟩) rest.length (uc - 1)) hne1).trans RS5.out)
      have N6 := hid (show New w (w5.setCell ⟨g5, i * 3, none⟩ (.slice (if uc = 1 then some ⟨gu, ou, none⟩ else some ⟨gu, ou + 1, none⟩) rest.length (uc - 1))) from ((N2'.out.trans N5.out (fun _ _ e => e)).setCell (p := ⟨g5, i * 3, none⟩) (fun h => absurd h (Nat.not_lt.2 (Nat.le_trans N2'.out.size (owns_block O5.out rfl).1))) _))
      clear hne0 hne1 hcs5
      generalize w5.setCell ⟨g5, i * 3, none⟩ (.slice (if uc = 1 then some ⟨gu, ou, none⟩ else some ⟨gu, ou + 1, none⟩) rest.length (uc - 1)) = w6 at *
      obtain ⟨y0, y1, yf⟩ := cells2 BX6.out
      obtain ⟨r0, r1, rf⟩ := cells2 RS6.out
      go_wp2_with fail
      all_goals
        have e1 : (w6.setCell ⟨w.heap.size, 0, none⟩ (.slice (some ⟨g5, 0, none⟩) H.taps.length cc5)).heap[w.heap.size + 1]? = some (.cells #[.slice none 0 0, .int .i64 0] 73 (0, 0)) := (heap_setCell_other _ _ _ _ (by simp)).trans RS6.out
        have e2 := heap_setCell_same _ (w.heap.size + 1) 0 _ 73 (.slice (some ⟨g5, 0, none⟩) H.taps.length cc5) e1
        have e3 := heap_setCell_same _ (w.heap.size + 1) 1 _ 73 (.int .i64 H.room) e2
        have s1 : Stay [3, 80] w6 (((w6.setCell ⟨w.heap.size, 0, none⟩ (.slice (some ⟨g5, 0, none⟩) H.taps.length cc5)).setCell ⟨w.heap.size + 1, 0, none⟩ (.slice (some ⟨g5, 0, none⟩) H.taps.length cc5)).setCell ⟨w.heap.size + 1, 1, none⟩ (.int .i64 H.room)) :=
          ((Stay.set BX6.out (by simp) 0 _).trans (Stay.set e1 (by simp) 0 _)).trans (Stay.set e2 (by simp) 1 _)
        have n1 : New w (((w6.setCell ⟨w.heap.size, 0, none⟩ (.slice (some ⟨g5, 0, none⟩) H.taps.length cc5)).setCell ⟨w.heap.size + 1, 0, none⟩ (.slice (some ⟨g5, 0, none⟩) H.taps.length cc5)).setCell ⟨w.heap.size + 1, 1, none⟩ (.int .i64 H.room)) :=
          ((N6.out.setCell (p := ⟨w.heap.size, 0, none⟩) (fun h => absurd h (Nat.lt_irrefl _)) _).setCell (p := ⟨w.heap.size + 1, 0, none⟩) (fun h => absurd h (by simp)) _).setCell (p := ⟨w.heap.size + 1, 1, none⟩) (fun h => absurd h (by simp)) _
        have rr : RHub _ (.slice (some ⟨g5, 0, none⟩) H.taps.length cc5) _ (H.put i H.taps[i].took).taps := PUT.out.stay s1 (by simp) (by simp)
        refine bodyPost_ret (results_row2 rfl _ _ (w.heap.size + 1) 73 #[.slice (some ⟨g5, 0, none⟩) H.taps.length cc5, .int .i64 H.room] (0, 0) _ rfl e3 Try.underlying73 rfl (by kernel_rfl)) rfl (by first | exact ⟨_, _, rfl, rr, n1⟩ | exact ⟨_, rfl, ⟨_, rr⟩, n1⟩)
  · have E := hid (show H.take k = (H, 0, false) by rw [HubS.take, if_neg hk])
    rw [E.out]
    have R1 := hid (fun o o' => R0.out.new (n2 o o'))
    have N2 := hid n2
    clear n2 h
    by_cases hneg : k < 0
    · clear hk
      go_enter Try.func76, Try.ntmps76
      go_wp2_with fail
      refine bodyPost_ret (results_row2 rfl _ _ (w.heap.size + 1) 73 #[.slice la H.taps.length lc, .int .i64 H.room] (0, 0) _ rfl (heap_alloc2_new w _ _) Try.underlying73 rfl (by kernel_rfl)) rfl (by first | exact ⟨_, vs, rfl, R1.out _ _, N2.out _ _⟩ | exact ⟨_, rfl, ⟨vs, R1.out _ _⟩, N2.out _ _⟩)
    · have hge : (H.taps.length : Int) ≤ k := by omega
      clear hk
      go_enter Try.func76, Try.ntmps76
      go_wp2_with fail
      refine bodyPost_ret (results_row2 rfl _ _ (w.heap.size + 1) 73 #[.slice la H.taps.length lc, .int .i64 H.room] (0, 0) _ rfl (heap_alloc2_new w _ _) Try.underlying73 rfl (by kernel_rfl)) rfl (by first | exact ⟨_, vs, rfl, R1.out _ _, N2.out _ _⟩ | exact ⟨_, rfl, ⟨vs, R1.out _ _⟩, N2.out _ _⟩)
end Go.Proofs.Ytjlmbmamkhneiaa
