/- The walk of a hub's Tap. -/
import Derived.Test.YtjlmbmamkhneiaaHub
import Derived.Deep.RegionLaw
import Derived.Deep.AppendLies
import Derived.Conc.SmallLaws
namespace Go.Proofs.Ytjlmbmamkhneiaa
open Go Go.RowKit Go.Conc
theorem info118 : (Try.prog.info? 118).map (fun i => (i.zero, i.size, i.bytes)) = some (some (.pointer none), 1, 8) := by kernel_rfl
theorem T115 : SliceTy Try.prog 115 118 (.pointer none) 8 := ⟨Try.underlying115, info_parts info118⟩
theorem mkchan (n : Nat) (hn : n ≤ 1024) (w : World) : (Instr.makeChan 119 (I n)).run Try.prog w = .ok (.chan (some w.heap.size)) (w.alloc (.chan n #[] false 0 0 false)) := by
  obtain ⟨i, hi, _, _, hb⟩ := I3
  exact run_makeChan (P := Try.prog) (w := w) Try.underlying119 hi .i64 n (by omega) (by rw [hb]; omega)
theorem alloc3_new (w : World) (o1 o2 o3 : Obj) : (((w.alloc o1).alloc o2).alloc o3).heap[w.heap.size + 2]? = some o3 := by
  have := heap_alloc_new ((w.alloc o1).alloc o2) o3
  simpa only [World.size_alloc] using this
theorem acell {w : World} {a : Addr} {v : Value} (h : w.cell? a = some v) (o : Obj) : (w.alloc o).cell? a = some v :=
  (World.cell?_of_block (Below.heap_alloc w o a.block (block_lt_of_cell h))).trans h
theorem frz3 (w : World) (h : Nat) (o1 o2 o3 : Obj) (lh : h < w.heap.size) (hf : ∀ i, w.frozen? ⟨h, i, none⟩ = false) : (((w.alloc o1).alloc o2).alloc o3).frozen? ⟨h, 0, none⟩ = false := by
  have e : (((w.alloc o1).alloc o2).alloc o3).heap[h]? = w.heap[h]? := by
    have b1 := Below.heap_alloc w o1 h lh
    have b2 := Below.heap_alloc (w.alloc o1) o2 h (by simp; omega)
    have b3 := Below.heap_alloc ((w.alloc o1).alloc o2) o3 h (by simp; omega)
    rw [b3, b2, b1]
  have := hf 0
  simp only [World.frozen?] at this ⊢
  rw [e]; exact this
theorem dcell {w : World} {a : Addr} {v : Value} (h : w.cell? a = some v) : w.drew.cell? a = some v := h
theorem grown_heap {w w' : World} {r : Option Nat} (hg : w.grownBy w' r) {k : Nat} (hk : k < w.heap.size) (hn : some k ≠ r) : w'.heap[k]? = w.heap[k]? := hg.block k hk hn
def HubS.tap (H : HubS) : HubS × Int × Bool := if H.taps.length < 16 then ({ H with taps := H.taps ++ [⟨true, [], 0⟩] }, H.taps.length, true) else (H, 0, false)
theorem tap_new {w w1 : World} {h : Nat} {v : Value} {l : List (Nat × Nat)} {H : HubS} (a : HubAt w h v l H) (hlt : H.taps.length < 16) {gg cap : Nat} {cs : Array Value} {ty : TypeId}
    (hown : w1.ownsRow 0 118 1 (.slice (some ⟨gg, 0, none⟩) (H.taps.length + 1) cap) (H.taps.length + 1) (l.map ptr ++ [.pointer (some ⟨w.heap.size + 1, 0, none⟩)]))
    (hg : ((((w.alloc (.chan H.room #[] false 0 0 false)).alloc (.cells #[.chan (some w.heap.size), .bool true, .int .i64 0] 121)).alloc (.cells cs ty)).drew).grownBy w1 v.ownBlock)
    (hat : v.ownBlock = some gg ∨ gg = w.heap.size + 3) :
    ∃ v' l', HubAt (w1.setCell ⟨h, 0, none⟩ (.slice (some ⟨gg, 0, none⟩) (H.taps.length + 1) cap)) h v' l' { H with taps := H.taps ++ [⟨true, [], 0⟩] } ∧
      Chg (HubB h v l) w (w1.setCell ⟨h, 0, none⟩ (.slice (some ⟨gg, 0, none⟩) (H.taps.length + 1) cap)) ∧ ∀ k, HubB h v' l' k → HubB h v l k ∨ w.heap.size ≤ k := by
  have lh := lt_of_block a.cells
  have hne : some h ≠ v.ownBlock := by
    intro e
    have hc := a.cells
    rcases a.row.2 with ⟨hn, _⟩ | ⟨g, cap, cur, hv, hg, hh, _⟩
    · rw [hn] at e; cases e
    · rw [hv] at e; cases e; rw [hc] at hh; simp at hh
  have hvlt : ∀ g, v.ownBlock = some g → g < w.heap.size ∧ ∃ cs fr, w.heap[g]? = some (.cells cs 118 fr) := by
    intro g e
    rcases a.row.2 with ⟨hn, _⟩ | ⟨g', cap, cur, hv, hg, hh, _⟩
    · rw [hn] at e; cases e
    · rw [hv] at e; cases e; exact ⟨lt_of_block hh, _, _, hh⟩
  have c1 : Chg (HubB h v l) w w1 := ((((Chg.refl _ w).alloc _).alloc _).alloc _).drew.grown hg (fun k hk _ => .inr (.inl hk))
  have c2 := c1.setCell (p := ⟨h, 0, none⟩) (fun _ => .inl rfl) (.slice (some ⟨gg, 0, none⟩) (H.taps.length + 1) cap)
  have hgh : gg ≠ h := by
    rintro rfl
    rcases hat with e | e
    · exact hne e.symm
    · omega
  have new0 : w1.heap[w.heap.size]? = some (.chan H.room #[] false 0 0 false) := by
    rw [grown_heap hg (by simp [World.drew] <;> omega) (fun e => by have := (hvlt _ e.symm).1; omega)]
    show (((w.alloc _).alloc _).alloc _).heap[w.heap.size]? = _
    rw [Below.heap_alloc _ _ _ (by simp <;> omega), Below.heap_alloc _ _ _ (by simp), heap_alloc_new]
  have new1 : w1.heap[w.heap.size + 1]? = some (.cells #[.chan (some w.heap.size), .bool true, .int .i64 0] 121 (0, 0)) := by
    rw [grown_heap hg (by simp [World.drew] <;> omega) (fun e => by have := (hvlt _ e.symm).1; omega)]
    show (((w.alloc _).alloc _).alloc _).heap[w.heap.size + 1]? = _
    rw [Below.heap_alloc _ _ _ (by simp)]
    have := heap_alloc_new (w.alloc (.chan H.room #[] false 0 0 false)) (.cells #[.chan (some w.heap.size), .bool true, .int .i64 0] 121)
    simpa using this
  have oldh : w1.heap[h]? = w.heap[h]? := by
    rw [grown_heap hg (by simp [World.drew]; omega) hne]
    show (((w.alloc _).alloc _).alloc _).heap[h]? = _
    rw [Below.heap_alloc _ _ _ (by simp; omega), Below.heap_alloc _ _ _ (by simp; omega), Below.heap_alloc _ _ _ lh]
  have other : ∀ k, k ≠ h → ∀ u, (w1.setCell ⟨h, 0, none⟩ u).heap[k]? = w1.heap[k]? := fun k hk u => heap_setCell_other _ _ _ _ hk
  refine ⟨.slice (some ⟨gg, 0, none⟩) (H.taps.length + 1) cap, l ++ [(w.heap.size + 1, w.heap.size)], ⟨?_, ?_, ?_, ?_, ?_, ?_, a.big⟩, c2, ?_⟩
  · exact heap_setCell_same w1 h 0 _ 117 _ (oldh.trans a.cells)
  · have e : (l ++ [(w.heap.size + 1, w.heap.size)]).map ptr = l.map ptr ++ [.pointer (some ⟨w.heap.size + 1, 0, none⟩)] := by simp
    rw [e]
    have e2 : (l.map ptr ++ [Value.pointer (some ⟨w.heap.size + 1, 0, none⟩)]).length = H.taps.length + 1 := by simp [a.len]
    rw [e2]
    refine ⟨hown.1, ?_⟩
    rcases hown.2 with ⟨hn, _⟩ | ⟨g, cap', cur, hv, hb, hh, r⟩
    · cases hn
    · refine .inr ⟨g, cap', cur, hv, hb, (other g ?_ _).trans hh, r⟩
      cases hv; exact hgh
  · simp [a.len]
  · intro i pc t h1 h2
    by_cases hi : i < H.taps.length
    · rw [List.getElem?_append_left (by rw [a.len]; exact hi)] at h1
      rw [List.getElem?_append_left hi] at h2
      have ht := a.taps i pc t h1 h2
      have hmem := List.mem_of_getElem? h1
      obtain ⟨s, r, hc⟩ := ht.chan
      have l1 := lt_of_block ht.cells
      have l2 := lt_of_block hc
      have n1 : pc.1 ≠ h := by rintro e; have := a.cells; rw [← e, ht.cells] at this; simp at this
      have n2 : pc.2 ≠ h := by rintro e; have := a.cells; rw [← e, hc] at this; simp at this
      have m1 : some pc.1 ≠ v.ownBlock := by intro e; obtain ⟨_, cs, fr, hh⟩ := hvlt _ e.symm; rw [ht.cells] at hh; simp at hh
      have m2 : some pc.2 ≠ v.ownBlock := by intro e; obtain ⟨_, cs, fr, hh⟩ := hvlt _ e.symm; rw [hc] at hh; simp at hh
      refine ht.move ((other _ n1 _).trans ?_) ((other _ n2 _).trans ?_)
      · rw [grown_heap hg (by simp [World.drew]; omega) m1]
        show (((w.alloc _).alloc _).alloc _).heap[_]? = _
        rw [Below.heap_alloc _ _ _ (by simp; omega), Below.heap_alloc _ _ _ (by simp; omega), Below.heap_alloc _ _ _ l1]
      · rw [grown_heap hg (by simp [World.drew]; omega) m2]
        show (((w.alloc _).alloc _).alloc _).heap[_]? = _
        rw [Below.heap_alloc _ _ _ (by simp; omega), Below.heap_alloc _ _ _ (by simp; omega), Below.heap_alloc _ _ _ l2]
    · have h3 : i - l.length = 0 ∧ pc = (w.heap.size + 1, w.heap.size) := by
        rw [List.getElem?_append_right (by rw [a.len]; omega)] at h1
        have := (List.getElem?_eq_some_iff.1 h1)
        obtain ⟨h4, h5⟩ := this
        simp at h4
        refine ⟨by omega, ?_⟩
        simpa using h5.symm
      have h4 : t = ⟨true, [], 0⟩ := by
        rw [List.getElem?_append_right (by omega)] at h2
        have := (List.getElem?_eq_some_iff.1 h2)
        obtain ⟨h4, h5⟩ := this
        simpa using h5.symm
      rw [h3.2, h4]
      exact ⟨(other _ (by show w.heap.size + 1 ≠ h; omega) _).trans new1, 0, 0, (other _ (by show w.heap.size ≠ h; omega) _).trans new0⟩
  · intro i j pc pd h1 h2 hij
    have key : ∀ (i : Nat) (pc : Nat × Nat), (l ++ [(w.heap.size + 1, w.heap.size)])[i]? = some pc → (i < l.length ∧ l[i]? = some pc ∧ (∃ t s r b, w.heap[pc.1]? = some (.cells t 121 (0, 0)) ∧ w.heap[pc.2]? = some (.chan H.room b false s r false)) ) ∨ (i = l.length ∧ pc = (w.heap.size + 1, w.heap.size)) := by
      intro i pc h1
      by_cases hi : i < l.length
      · rw [List.getElem?_append_left hi] at h1
        have hi' : i < H.taps.length := by rw [← a.len]; exact hi
        have ht := a.taps i pc _ h1 (List.getElem?_eq_getElem hi')
        obtain ⟨s, r, hc⟩ := ht.chan
        exact .inl ⟨hi, h1, _, s, r, _, ht.cells, hc⟩
      · rw [List.getElem?_append_right (by omega)] at h1
        obtain ⟨h4, h5⟩ := List.getElem?_eq_some_iff.1 h1
        simp at h4
        exact .inr ⟨by omega, by simpa using h5.symm⟩
    rcases key i pc h1 with ⟨i1, i2, t, s, r, b, i3, i4⟩ | ⟨i1, i2⟩ <;> rcases key j pd h2 with ⟨j1, j2, t', s', r', b', j3, j4⟩ | ⟨j1, j2⟩
    · exact a.apart i j pc pd i2 j2 hij
    · have := lt_of_block i3; have := lt_of_block i4; rw [j2]; exact ⟨by show pc.1 ≠ w.heap.size + 1; omega, by show pc.2 ≠ w.heap.size; omega⟩
    · have := lt_of_block j3; have := lt_of_block j4; rw [i2]; exact ⟨by show w.heap.size + 1 ≠ pd.1; omega, by show w.heap.size ≠ pd.2; omega⟩
    · omega
  · simp; omega
  · intro k hk
    rcases hk with e | e | ⟨pc, hm, e⟩
    · exact .inl (.inl e)
    · have e' : gg = k := by simpa [Value.ownBlock] using e
      subst e'
      rcases hat with e | e
      · exact .inl (.inr (.inl e))
      · exact .inr (by omega)
    · rcases List.mem_append.1 hm with hm | hm
      · exact .inl (.inr (.inr ⟨pc, hm, e⟩))
      · simp at hm; subst hm; exact .inr (by rcases e with e | e <;> simp at e <;> omega)
set_option maxRecDepth 100000 in
set_option maxHeartbeats 3200000 in
theorem Tap_t {w : World} {h : Nat} {v : Value} {l : List (Nat × Nat)} {H : HubS} (a : HubAt w h v l H) (hlt : H.taps.length < 16) :
    Calls Try.prog 42 #[.pointer (some ⟨h, 0, none⟩)] w fun e w' => e = .returned (.tuple #[I H.taps.length, .bool true]) ∧ ∃ v' l', HubAt w' h v' l' { H with taps := H.taps ++ [⟨true, [], 0⟩] } ∧ Chg (HubB h v l) w w' ∧ ∀ k, HubB h v' l' k → HubB h v l k ∨ w.heap.size ≤ k := by
  have A := hid a
  obtain ⟨h0, h1, hf⟩ := cells2 a.cells
  have lh := lt_of_cell h0
  obtain ⟨i0, hi0, hz0, hz1, hz2⟩ := info_parts info118
  obtain ⟨ad, c, hv⟩ := a.rd.shape
  have hl : (l.map ptr).length = H.taps.length := by rw [List.length_map, a.len]
  have hrow := a.row
  rw [hl] at hv hrow
  subst hv
  have HROW := hid hrow
  have hbig := a.big
  have hmc := mkchan H.room hbig
  have hne : some h ≠ (Value.slice ad H.taps.length c).ownBlock := by
    intro e
    have hc := a.cells
    rcases hrow.2 with ⟨hn, _⟩ | ⟨g, cap, cur, hv, hg, hh, _⟩
    · rw [hn] at e; cases e
    · rw [hv] at e; cases e; rw [hc] at hh; simp at hh
  clear a hl hrow
  go_enter Try.func42, Try.ntmps42
  go_wp2_with fail
  have HA0 := hid h0
  have HA1 := hid h1
  have hq1 : ∀ o, (w.alloc o).cell? ⟨h, 0, none⟩ = some (.slice ad H.taps.length c) := fun o => acell h0 o
  have hq2 : ∀ o o', ((w.alloc o).alloc o').cell? ⟨h, 0, none⟩ = some (.slice ad H.taps.length c) := fun o o' => acell (acell h0 o) o'
  have hq3 : ∀ o o' o'', (((w.alloc o).alloc o').alloc o'').cell? ⟨h, 0, none⟩ = some (.slice ad H.taps.length c) := fun o o' o'' => acell (acell (acell h0 o) o') o''
  go_region_law
    ((refine step_append_lies _ (by rfl) _ _ _ (by rfl) 0 118 i0 _ 1 8 Try.underlying115 hi0 hz0 hz1 hz2 rfl (by omega) _ _ _ (by rfl) ((((HROW.out.alloc _).alloc _).alloc _).drew) ⟨w.heap.size + 2, 0, none⟩ 1 1 [.pointer (some ⟨w.heap.size + 1, 0, none⟩)] (by rfl) (by rfl) (World.news_of_block (cs := #[.pointer (some ⟨w.heap.size + 1, 0, none⟩)]) (t := 118) (fr := (0, 0)) (alloc3_new w _ _ _)) (by simp [Value.oneCell']) (by omega) (by unfold maxLen; omega) (by omega) (by omega) (w.heap.size + 3) (by simp) ?_; intro gg cap w1 hown1 hgrow hat hlt1; have hk0 := hgrow.cell (acell (acell (acell HA0.out _) _) _) hne; have hk1 := hgrow.cell (acell (acell (acell HA1.out _) _) _) hne; have hkf := (hgrow.frozen_far ⟨h, 0, none⟩ (by simp; omega) hne).trans (frz3 w h _ _ _ lh hf)))
  all_goals go_wp2
  all_goals go_ret2
  all_goals exact ⟨rfl, tap_new A.out hlt (by assumption) (by assumption) (by assumption)⟩
end Go.Proofs.Ytjlmbmamkhneiaa
