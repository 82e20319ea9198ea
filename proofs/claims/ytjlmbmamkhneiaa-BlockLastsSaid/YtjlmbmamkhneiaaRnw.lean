/- The document's device made anew. -/
import Derived.Test.YtjlmbmamkhneiaaRre
namespace Go.Proofs.Ytjlmbmamkhneiaa
open Go Go.RowKit
set_option linter.unusedVariables false
theorem info22 : (Try.prog.info? 22).map (fun i => (i.zero, i.size, i.bytes)) = some (some (.slice none 0 0), 1, 24) := by kernel_rfl
/-- The cells of a blank block. -/
def blankA : Array Value := (cellV blank).toArray
theorem mkblank (w : World) : (Instr.makeSlice 22 (.int .i64 64) (.int .i64 64)).run Try.prog w = .ok (.slice (some ⟨w.heap.size, 0, none⟩) 64 64) (w.alloc (.cells blankA 5)) := by
  obtain ⟨i, hi, hz, hs, hb⟩ := info_parts info5
  rw [run_make (P := Try.prog) w 22 5 i _ Try.underlying22 hi hz .i64 .i64 64 64 (by omega) (by omega) (by rw [hb]; omega) (by omega), hs]
  have e : madeCells (Value.int .u8 0).cells ((64 : Int).toNat * 1) = blankA := by
    rw [show (Value.int .u8 0).cells = Array.replicate 1 (.int .u8 0) from rfl, madeCells_const _ _ _ (by decide)]
    apply Array.ext'
    rw [Array.toList_replicate]
    simp only [blankA, cellV, blank, List.map_replicate]; rfl
  rw [e]; rfl
theorem blank_own (w : World) : OwnB (w.alloc (.cells blankA 5)) (.slice (some ⟨w.heap.size, 0, none⟩) 64 64) blank := by
  refine ⟨by simp [blank], .inr ⟨w.heap.size, 64, blankA, by simp [blank], Nat.zero_le _, heap_alloc_new _ _, by simp [blank], by simp [maxLen], by simp [blankA, cellV, blank], ?_⟩⟩
  simp [blankA, cellV, blank]
theorem RefAt.mono {S T : Nat → Prop} {w : World} {d : Nat} {D : DevS} (h : RefAt S w d D) (hs : ∀ k, S k → T k) : RefAt T w d D := by
  obtain ⟨vL, vP, vK, ls, ps, h⟩ := h
  exact ⟨vL, vP, vK, ls, ps, h.dev, h.lasts, h.lb, h.pend, h.pb, h.keep, hs _ h.sd, fun k hk => hs _ (h.sl k hk), fun k hk => hs _ (h.sp k hk), h.ok⟩
theorem pushL {S : Nat → Prop} {w3 w4 : World} {d gg cap : Nat} {vL vP vK : Value} {ls ps : List Value} {D : DevS} (h : RefIs S w3 d vL vP vK ls ps D) (b : List UInt8) (u : Value) (hp : b.length = 64) (hu : OwnB w3 u b) (hroom : D.lasts.length < 512) (o : Obj)
    (hown : w4.ownsRow 0 22 1 (.slice (some ⟨gg, 0, none⟩) (D.lasts.length + 1) cap) (D.lasts.length + 1) (ls ++ [u])) (hg : ((w3.alloc o).drew).grownBy w4 vL.ownBlock) (hat : vL.ownBlock = some gg ∨ gg = w3.heap.size + 1)
    (hS : ∀ k, w3.heap.size ≤ k → S k) :
    RefAt S (w4.setCell ⟨d, 0, none⟩ (.slice (some ⟨gg, 0, none⟩) (D.lasts.length + 1) cap)) d { D with lasts := D.lasts ++ [b] } ∧
      Chg (Mut S rts w3) w3 (w4.setCell ⟨d, 0, none⟩ (.slice (some ⟨gg, 0, none⟩) (D.lasts.length + 1) cap)) := by
  have cg : Chg (Mut (fun k => vL.ownBlock = some k) [22] w3) w3 w4 := ((Chg.refl _ w3).alloc o).drew.grown hg (fun k hk _ => by
    obtain ⟨_, _, c, hc⟩ := owns_block h.lasts hk
    exact .of hk hc (by simp))
  have e1 := heap_setCell_same w4 d 0 _ 45 (.slice (some ⟨gg, 0, none⟩) (D.lasts.length + 1) cap) (cg.stays h.dev (by simp))
  have c2 : Chg (fun k => k = d) w4 (w4.setCell ⟨d, 0, none⟩ (.slice (some ⟨gg, 0, none⟩) (D.lasts.length + 1) cap)) := chg_one w4 d 0 _
  have cm : Chg (Mut (fun k => k = d) [45] w4) w4 (w4.setCell ⟨d, 0, none⟩ (.slice (some ⟨gg, 0, none⟩) (D.lasts.length + 1) cap)) := c2.mono fun k hk e => by subst e; exact .of rfl (cg.stays h.dev (by simp)) (by simp)
  have hll := h.lb.1
  refine ⟨⟨.slice (some ⟨gg, 0, none⟩) (D.lasts.length + 1) cap, vP, vK, ls ++ [u], ps, ⟨e1, ?_, ((h.lb.chg cg (by simp)).chg cm (by simp)).snoc ((hu.chg cg (by simp)).chg cm (by simp)), cm.owns (cg.owns h.pend (by simp)) (by simp), (h.pb.chg cg (by simp)).chg cm (by simp), cm.owns (cg.owns h.keep (by simp)) (by simp), h.sd, ?_, h.sp, ⟨?_, ?_, ?_, h.ok.fuse, h.ok.few⟩⟩⟩, ?_⟩
  · rw [show (ls ++ [u]).length = D.lasts.length + 1 by simp [hll]]
    exact cm.owns hown (by simp)
  · intro k hk
    cases hk
    rcases hat with e | e
    · exact h.sl _ e
    · exact hS _ (by show w3.heap.size ≤ gg; omega)
  · intro q hq
    rcases List.mem_append.1 hq with hq | hq
    · exact h.ok.cell q hq
    · rw [List.mem_singleton.1 hq]; exact hp
  · intro q hq
    have := h.ok.pend q hq
    exact ⟨by show q.1 < (D.lasts ++ [b]).length; simp; omega, this.2⟩
  · show (D.lasts ++ [b]).length ≤ 512
    simp; omega
  · exact h.set (cg.mono fun k hk e => ⟨h.sl k e.1, let ⟨c, t, f, h1, h2⟩ := e.2; ⟨c, t, f, h1, by simp at h2; simp [h2]⟩⟩) 0 _
theorem new_none (S : Nat → Prop) (w : World) (hS : ∀ k, w.heap.size ≤ k → S k) : RefAt S (w.alloc (.cells #[.slice none 0 0, .slice none 0 0, .bool false, .int .i64 0, .slice none 0 0] 45)) w.heap.size ⟨[], [], false, 0, []⟩ :=
  ⟨.slice none 0 0, .slice none 0 0, .slice none 0 0, [], [], heap_alloc_new _ _, World.ownsRow_nil _ _ _ _, ⟨rfl, fun i v b h => by simp at h⟩, World.ownsRow_nil _ _ _ _, ⟨rfl, fun i v b h => by simp at h⟩, World.ownsRow_nil _ _ _ _, hS _ (Nat.le_refl _), fun k hk => (by cases hk), fun k hk => (by cases hk), by simp, by simp, by simp, by simp, by simp⟩
def newTo (m : Nat) : DevS := ⟨List.replicate m blank, [], false, 0, []⟩
theorem newTo_len (m : Nat) : (newTo m).lasts.length = m := List.length_replicate
theorem newTo_succ (m : Nat) : ({ newTo m with lasts := (newTo m).lasts ++ [blank] } : DevS) = newTo (m + 1) := by unfold newTo; rw [List.replicate_succ']
theorem newTo_all (k : Int) : DevS.new k = newTo (countOf k) := rfl
attribute [local go_sem ↓] mkblank
set_option maxRecDepth 100000 in
set_option maxHeartbeats 16000000 in
theorem New_r (k : Int) (w : World) (S : Nat → Prop) (hS : ∀ k, w.heap.size ≤ k → S k) : Calls Try.prog 22 #[I k] w fun e w' => ∃ d, e = .returned (.pointer (some ⟨d, 0, none⟩)) ∧ w.heap.size ≤ d ∧ RefAt S w' d (DevS.new k) ∧ New w w' := by
  rw [newTo_all]
  have HS := hid hS
  have hcn : countOf k = (min (max k 0) 512).toNat := rfl
  generalize countOf k = n at *
  have hn : n ≤ 512 := by omega
  have NN := hid (new_none (fun k => w.heap.size ≤ k) w (fun k h => h))
  have CN := hid ((Chg.refl (fun _ => False) w).alloc (.cells #[.slice none 0 0, .slice none 0 0, .bool false, .int .i64 0, .slice none 0 0] 45))
  have hd : ∃ d, d = w.heap.size := ⟨_, rfl⟩
  obtain ⟨d, hd⟩ := hd
  have HDD := hid hd
  clear hS
  by_cases c2 : 512 < k
  · have hn5 : n = 512 := by omega
    go_enter Try.func22, Try.ntmps22
    go_wp2_with fail
    go_loopw [4] (fun i wr => ∃ m : Nat, i = .int .i64 m ∧ m ≤ n ∧ RefAt (fun k => w.heap.size ≤ k) wr w.heap.size (newTo m) ∧ New w wr) (fun i _ => n - (intOf i).toNat)
    case atStart => exact ⟨0, rfl, by omega, NN.out, CN.out⟩
    case round =>
      obtain ⟨m, rfl, hm, hi, hc⟩ := hrel
      have C1 := hid hc
      by_cases hlt : (m : Int) < 512
      · obtain ⟨vL, vP, vK, ls, ps, hi⟩ := hi
        obtain ⟨la, lc, rfl, hl1, hl2⟩ := owns_shape hi.lasts
        have hll := hi.lb.1
        rw [newTo_len] at hll
        rw [hll] at hi hl1
        have A1 := hid hi
        obtain ⟨k0, _, _, _, _, kf⟩ := cells5 hi.dev
        have HROW := hid (show wr.ownsRow 0 22 1 (.slice la m lc) m ls by have := hi.lasts; rw [hll] at this; exact this)
        have LD := hid (lt_of_block hi.dev)
        have HNE := hid (show ∀ k, (Value.slice la m lc).ownBlock = some k → k ≠ w.heap.size from fun k hk e => by
          obtain ⟨_, _, c, hc⟩ := owns_block HROW.out hk
          rw [e, hi.dev] at hc; simp at hc)
        have KF := hid kf
        have N1 := hid ((Chg.refl (fun _ => False) wr).alloc (.cells blankA 5))
        have BO := hid (blank_own wr)
        have H2 := hid (show ∀ o, ((wr.alloc (.cells blankA 5)).alloc o).heap[wr.heap.size + 1]? = some o from fun o => by
          have h := heap_alloc_new (wr.alloc (.cells blankA 5)) o
          rwa [show (wr.alloc (.cells blankA 5)).heap.size = wr.heap.size + 1 by simp] at h)
        have k6 : (wr.alloc (.cells blankA 5)).cell? ⟨w.heap.size, 0, none⟩ = some (.slice la m lc) := acell_lt k0 _
        have k7 : ∀ o, ((wr.alloc (.cells blankA 5)).alloc o).cell? ⟨w.heap.size, 0, none⟩ = some (.slice la m lc) := fun o => acell_lt (acell_lt k0 _) o
        have K0 := hid k0
        clear hi hc hl1 hl2 kf hll k0
        obtain ⟨i22, hi22, hz22, hs22, hb22⟩ := info_parts info22
        go_upto_region 7 with fail
        have k0 := K0.out
        have kf := KF.out 0
        go_region_law
          (refine step_append_lies _ (by rfl) _ _ _ (by rfl) 0 22 i22 _ 1 24 Try.underlying23 hi22 hz22 hs22 hb22 rfl (by omega) _ _ _ (by rfl) ((owns_new HROW.out N1.out).alloc _) ⟨wr.heap.size + 1, 0, none⟩ 1 1 [.slice (some ⟨wr.heap.size, 0, none⟩) 64 64] (by rfl) (by rfl) (World.news_of_block (cs := #[.slice (some ⟨wr.heap.size, 0, none⟩) 64 64]) (t := 22) (fr := (0, 0)) (H2.out _)) (by intro u hu; simp at hu; rcases hu with rfl; rfl) (by omega) (by unfold maxLen; omega) (by omega) (by omega) (wr.heap.size + 2) (by simp) ?_; intro gg cap w7 hown1 hgrow hat hlt1; have N7 := hid (And.intro hown1 (And.intro hgrow hat)); have hk7 := (hgrow.cell_far ⟨w.heap.size, 0, none⟩ (by have := LD.out; simp; omega) (fun e => HNE.out _ e.symm rfl)).trans (k7 _); have hkf := (hgrow.frozen_far ⟨w.heap.size, 0, none⟩ (by have := LD.out; simp; omega) (fun e => HNE.out _ e.symm rfl)).trans (frz_new N1.out LD.out (KF.out 0)); clear hown1 hgrow hat hlt1)
        all_goals go_wp2_with fail
        all_goals go_roundw
        all_goals first
          | (show _ < _; simp [intOf]; omega)
          | skip
        all_goals
          have PN := pushL (A1.out.new N1.out) blank _ (by simp [blank]) BO.out (by rw [newTo_len]; omega) _ (by rw [newTo_len]; exact N7.out.1) ⟨N7.out.2.1.os, N7.out.2.1.tape, N7.out.2.1.output, N7.out.2.1.size, N7.out.2.1.block⟩ (by rw [show (wr.alloc (.cells blankA 5)).heap.size + 1 = wr.heap.size + 2 by simp]; exact N7.out.2.2) (fun k hk => Nat.le_trans C1.out.size (Nat.le_trans N1.out.size hk))
          rw [newTo_succ, newTo_len] at PN
          exact ⟨m + 1, by go_num, by omega, PN.1, (C1.out.trans N1.out (fun _ _ e => e)).trans PN.2 (fun k hk e => absurd e.1 (by omega))⟩
      · obtain rfl : n = m := by omega
        have R1 := hid hi
        clear hi hc
        go_wp2_with fail
        go_ret
        exact ⟨_, rfl, Nat.le_refl _, by first | exact R1.out.mono HS.out | (rw [← hcn]; exact R1.out.mono HS.out), C1.out⟩
  · have _ := hn
    go_enter Try.func22, Try.ntmps22
    go_wp2_with fail
    go_loopw [4] (fun i wr => ∃ m : Nat, i = .int .i64 m ∧ m ≤ n ∧ RefAt (fun k => w.heap.size ≤ k) wr w.heap.size (newTo m) ∧ New w wr) (fun i _ => n - (intOf i).toNat)
    case atStart => exact ⟨0, rfl, by omega, NN.out, CN.out⟩
    case round =>
      obtain ⟨m, rfl, hm, hi, hc⟩ := hrel
      have C1 := hid hc
      by_cases hlt : (m : Int) < k
      · obtain ⟨vL, vP, vK, ls, ps, hi⟩ := hi
        obtain ⟨la, lc, rfl, hl1, hl2⟩ := owns_shape hi.lasts
        have hll := hi.lb.1
        rw [newTo_len] at hll
        rw [hll] at hi hl1
        have A1 := hid hi
        obtain ⟨k0, _, _, _, _, kf⟩ := cells5 hi.dev
        have HROW := hid (show wr.ownsRow 0 22 1 (.slice la m lc) m ls by have := hi.lasts; rw [hll] at this; exact this)
        have LD := hid (lt_of_block hi.dev)
        have HNE := hid (show ∀ k, (Value.slice la m lc).ownBlock = some k → k ≠ w.heap.size from fun k hk e => by
          obtain ⟨_, _, c, hc⟩ := owns_block HROW.out hk
          rw [e, hi.dev] at hc; simp at hc)
        have KF := hid kf
        have N1 := hid ((Chg.refl (fun _ => False) wr).alloc (.cells blankA 5))
        have BO := hid (blank_own wr)
        have H2 := hid (show ∀ o, ((wr.alloc (.cells blankA 5)).alloc o).heap[wr.heap.size + 1]? = some o from fun o => by
          have h := heap_alloc_new (wr.alloc (.cells blankA 5)) o
          rwa [show (wr.alloc (.cells blankA 5)).heap.size = wr.heap.size + 1 by simp] at h)
        have k6 : (wr.alloc (.cells blankA 5)).cell? ⟨w.heap.size, 0, none⟩ = some (.slice la m lc) := acell_lt k0 _
        have k7 : ∀ o, ((wr.alloc (.cells blankA 5)).alloc o).cell? ⟨w.heap.size, 0, none⟩ = some (.slice la m lc) := fun o => acell_lt (acell_lt k0 _) o
        have K0 := hid k0
        clear hi hc hl1 hl2 kf hll k0
        obtain ⟨i22, hi22, hz22, hs22, hb22⟩ := info_parts info22
        go_upto_region 7 with fail
        have k0 := K0.out
        have kf := KF.out 0
        go_region_law
          (refine step_append_lies _ (by rfl) _ _ _ (by rfl) 0 22 i22 _ 1 24 Try.underlying23 hi22 hz22 hs22 hb22 rfl (by omega) _ _ _ (by rfl) ((owns_new HROW.out N1.out).alloc _) ⟨wr.heap.size + 1, 0, none⟩ 1 1 [.slice (some ⟨wr.heap.size, 0, none⟩) 64 64] (by rfl) (by rfl) (World.news_of_block (cs := #[.slice (some ⟨wr.heap.size, 0, none⟩) 64 64]) (t := 22) (fr := (0, 0)) (H2.out _)) (by intro u hu; simp at hu; rcases hu with rfl; rfl) (by omega) (by unfold maxLen; omega) (by omega) (by omega) (wr.heap.size + 2) (by simp) ?_; intro gg cap w7 hown1 hgrow hat hlt1; have N7 := hid (And.intro hown1 (And.intro hgrow hat)); have hk7 := (hgrow.cell_far ⟨w.heap.size, 0, none⟩ (by have := LD.out; simp; omega) (fun e => HNE.out _ e.symm rfl)).trans (k7 _); have hkf := (hgrow.frozen_far ⟨w.heap.size, 0, none⟩ (by have := LD.out; simp; omega) (fun e => HNE.out _ e.symm rfl)).trans (frz_new N1.out LD.out (KF.out 0)); clear hown1 hgrow hat hlt1)
        all_goals go_wp2_with fail
        all_goals go_roundw
        all_goals first
          | (show _ < _; simp [intOf]; omega)
          | skip
        all_goals
          have PN := pushL (A1.out.new N1.out) blank _ (by simp [blank]) BO.out (by rw [newTo_len]; omega) _ (by rw [newTo_len]; exact N7.out.1) ⟨N7.out.2.1.os, N7.out.2.1.tape, N7.out.2.1.output, N7.out.2.1.size, N7.out.2.1.block⟩ (by rw [show (wr.alloc (.cells blankA 5)).heap.size + 1 = wr.heap.size + 2 by simp]; exact N7.out.2.2) (fun k hk => Nat.le_trans C1.out.size (Nat.le_trans N1.out.size hk))
          rw [newTo_succ, newTo_len] at PN
          exact ⟨m + 1, by go_num, by omega, PN.1, (C1.out.trans N1.out (fun _ _ e => e)).trans PN.2 (fun k hk e => absurd e.1 (by omega))⟩
      · obtain rfl : n = m := by omega
        have R1 := hid hi
        clear hi hc
        go_wp2_with fail
        go_ret
        exact ⟨_, rfl, Nat.le_refl _, by first | exact R1.out.mono HS.out | (rw [← hcn]; exact R1.out.mono HS.out), C1.out⟩
end Go.Proofs.Ytjlmbmamkhneiaa
