/- The walk of a hub's First. -/
import Derived.Test.YtjlmbmamkhneiaaHub3
namespace Go.Proofs.Ytjlmbmamkhneiaa
open Go Go.RowKit Go.Conc
theorem take_false {H : HubS} {k : Int} (h : (H.take k).2.2 = false) : H.take k = (H, 0, false) := by
  unfold HubS.take at h ⊢
  by_cases hk : 0 ≤ k ∧ k < H.taps.length
  · rw [if_pos hk] at h ⊢
    cases ht : H.taps[k.toNat]? with
    | none => rfl
    | some t =>
      simp only [ht] at h ⊢
      by_cases he : t.buf.isEmpty = true
      · rw [if_pos he]
      · rw [if_neg he] at h; cases h
  · rw [if_neg hk]
def HubS.first (H : HubS) : List Int → HubS × Int × Int × Bool
  | [] => (H, 0, 0, false)
  | k :: ks => if (H.take k).2.2 = true then ((H.take k).1, (H.take k).2.1, k, true) else H.first ks
theorem first_drop {H : HubS} {ks : List Int} {m : Nat} (hm : m < ks.length) : H.first (ks.drop m) = if (H.take ks[m]).2.2 = true then ((H.take ks[m]).1, (H.take ks[m]).2.1, ks[m], true) else H.first (ks.drop (m + 1)) := by
  rw [List.drop_eq_getElem_cons hm]; rfl
set_option maxHeartbeats 1000000 in
theorem First_t {w : World} {h : Nat} {v : Value} {l : List (Nat × Nat)} {H : HubS} (a : HubAt w h v l H) (xv : Value) (xs : List Int) (hx : RdI w xv xs) (hxn : xs ≠ [] → ∀ g, xv.ownBlock = some g → ¬ HubB h v l g) :
    Calls Try.prog 51 #[.pointer (some ⟨h, 0, none⟩), xv] w fun e w' => e = .returned (.tuple #[I (H.first xs).2.1, I (H.first xs).2.2.1, .bool (H.first xs).2.2.2]) ∧ HubAt w' h v l (H.first xs).1 ∧ Chg (HubB h v l) w w' := by
  have A := hid a
  have HX := hid hx
  have HXN := hid hxn
  obtain ⟨xa, xc, rfl⟩ := hx.shape
  have hxl : (xs.map I).length = xs.length := List.length_map _
  have hmx : xs.length ≤ maxLen := by
    obtain ⟨_, _, e, h1, h2, _⟩ := hx
    injection e with _ _ e3
    rw [hxl] at h1; omega
  unfold maxLen at hmx
  rw [hxl] at HX HXN ⊢
  clear hxl hx hxn a
  go_enter Try.func51, Try.ntmps51
  go_wp2
  go_loopw [14] (fun j wr => ∃ m : Nat, j = .int .i64 m ∧ m ≤ xs.length ∧ H.first xs = H.first (xs.drop m) ∧ HubAt wr h v l H ∧ Chg (HubB h v l) w wr) (fun j _ => xs.length - (intOf j).toNat)
  case atStart => exact ⟨0, rfl, by omega, rfl, A.out, Chg.refl _ _⟩
  case round =>
    obtain ⟨m, rfl, hm, hk, ha, hc⟩ := hrel
    have A1 := hid ha
    have C1 := hid hc
    have HK := hid hk
    clear hk ha hc
    by_cases hlt : m < xs.length
    · obtain ⟨_, _, hsl, _, _, hcell⟩ := HX.out.chg C1.out (fun g hg _ => HXN.out (by rintro rfl; simp at hlt) g hg)
      injection hsl with e1 e2 e3
      clear e2
      subst e1 e3
      obtain ⟨g, off, rfl, hv⟩ := hcell m (I xs[m]) (by rw [List.getElem?_map, List.getElem?_eq_getElem hlt]; rfl)
      have HD := hid (first_drop (H := H) hlt)
      generalize xs[m] = x at *
      clear hcell
      go_wp2_with fail
      refine (Take_t A1.out x).mono ?_
      rintro e w' ⟨rfl, ha', hc'⟩
      have A2 := hid ha'
      have C2 := hid hc'
      clear ha' hc'
      cases hb : (H.take x).2.2
      · have HF := hid (take_false hb)
        rw [hb] at HD
        have HB := hid hb
        clear hb
        go_wp2
        refine ⟨⟨m + 1, by go_num, by omega, ?_, ?_, C1.out.trans C2.out (fun _ _ e => e)⟩, by simp [intOf]; omega⟩
        · rw [HK.out, HD.out]; rfl
        · have := A2.out; rw [HF.out] at this; exact this
      · rw [hb] at HD
        have HB := hid hb
        clear hb
        go_wp2
        go_ret3
        rw [HK.out, HD.out]
        exact ⟨rfl, A2.out, C1.out.trans C2.out (fun _ _ e => e)⟩
    · obtain rfl : m = xs.length := by omega
      rw [List.drop_length] at HK
      go_wp2
      go_ret3
      rw [HK.out]
      exact ⟨rfl, A1.out, C1.out⟩
set_option maxHeartbeats 1000000 in
theorem First_nil {w : World} (xv : Value) (xs : List Int) (hx : RdI w xv xs) :
    Calls Try.prog 51 #[.pointer none, xv] w fun e w' => e = .returned (.tuple #[I 0, I 0, .bool false]) ∧ w = w' := by
  have HX := hid hx
  obtain ⟨xa, xc, rfl⟩ := hx.shape
  have hxl : (xs.map I).length = xs.length := List.length_map _
  have hmx : xs.length ≤ maxLen := by
    obtain ⟨_, _, e, h1, h2, _⟩ := hx
    injection e with _ _ e3
    rw [hxl] at h1; omega
  unfold maxLen at hmx
  rw [hxl] at HX ⊢
  clear hxl hx
  go_enter Try.func51, Try.ntmps51
  go_wp2
  go_loop [14] (fun j => ∃ m : Nat, j = .int .i64 m ∧ m ≤ xs.length) (fun j => xs.length - (intOf j).toNat)
  case atStart => exact ⟨0, rfl, by omega⟩
  case round =>
    obtain ⟨m, rfl, hm⟩ := hrel
    by_cases hlt : m < xs.length
    · obtain ⟨_, _, hsl, _, _, hcell⟩ := HX.out
      injection hsl with e1 e2 e3
      clear e2
      subst e1 e3
      obtain ⟨g, off, rfl, hv⟩ := hcell m (I xs[m]) (by rw [List.getElem?_map, List.getElem?_eq_getElem hlt]; rfl)
      generalize xs[m] = x at *
      clear hcell
      go_wp2_with fail
      refine (Take_nil x _).mono ?_
      rintro e w' ⟨rfl, rfl⟩
      go_wp2
      exact ⟨⟨m + 1, by go_num, by omega⟩, by simp [intOf]; omega⟩
    · obtain rfl : m = xs.length := by omega
      go_wp2
      go_ret3
      exact ⟨rfl, rfl⟩
theorem rdV_row {w : World} {g : Nat} {xs : List Value} {t : TypeId} {fr : Nat × Nat} (h : w.heap[g]? = some (.cells xs.toArray t fr)) (hm : xs.length ≤ maxLen) : RdV w (.slice (some ⟨g, 0, none⟩) xs.length xs.length) xs :=
  ⟨_, _, rfl, Nat.le_refl _, hm, fun j u hu => ⟨g, 0, rfl, by rw [cell_of_row w g _ _ t fr h, Nat.zero_add]; simpa using hu⟩⟩
theorem HubAt.lt {w : World} {h : Nat} {v : Value} {l : List (Nat × Nat)} {H : HubS} (a : HubAt w h v l H) {k : Nat} (hk : HubB h v l k) : k < w.heap.size := by
  rcases hk with e | e | ⟨pc, hm, e⟩
  · rw [e]; exact lt_of_block a.cells
  · rcases a.row.2 with ⟨hn, _⟩ | ⟨g, cap, cur, hv, hg, hh, _⟩
    · rw [hn] at e; cases e
    · rw [hv] at e; cases e; exact lt_of_block hh
  · obtain ⟨i, hi⟩ := List.mem_iff_getElem?.1 hm
    have hlt := (List.getElem?_eq_some_iff.1 hi).1
    rw [a.len] at hlt
    have ht := a.taps i pc _ hi (List.getElem?_eq_getElem hlt)
    obtain ⟨s, r, hc⟩ := ht.chan
    rcases e with e | e
    · rw [e]; exact lt_of_block ht.cells
    · rw [e]; exact lt_of_block hc
theorem HubAt.alloc {w : World} {h : Nat} {v : Value} {l : List (Nat × Nat)} {H : HubS} (a : HubAt w h v l H) (o : Obj) : HubAt (w.alloc o) h v l H := a.chg ((Chg.refl (fun _ => False) w).alloc o) (fun _ _ _ e => e)
theorem rdI_new (w : World) (zs : List Int) (t : TypeId) (hm : zs.length ≤ maxLen) : RdI (w.alloc (.cells (zs.map I).toArray t)) (.slice (some ⟨w.heap.size, 0, none⟩) (zs.map I).length (zs.map I).length) zs :=
  rdV_row (heap_alloc_new _ _) (by simpa using hm)
theorem awake_t (w : World) : Calls Try.prog 47 #[] w fun e w' => e = .returned (.bool true) ∧ Chg (fun _ => False) w w' := by
  go_enter Try.func47, Try.ntmps47
  go_wp2_with fail
  refine (New_t 2 w).mono ?_
  rintro e w1 ⟨rfl, ha, hc⟩
  have hne1 := lt_of_block ha.cells
  generalize hh : w.heap.size = h at *
  have HH := hid hh
  have A0 := hid ha
  have C0 := hid hc
  clear ha hc hh
  go_wp2_with fail
  refine (Tap_t A0.out (by decide)).mono ?_
  rintro e w2 ⟨rfl, v, l, ha, hc, hb⟩
  have A1 : Hid (HubAt w2 h v l ⟨[⟨true, [], 0⟩], 2⟩) := ha
  have C1 := hid (C0.out.trans hc (fun i hi e => by have := hubB_nil e; rw [HH.out] at hi; omega))
  have B1 : Hid (∀ k, HubB h v l k → w.heap.size ≤ k) := fun k hk => by
    rw [HH.out]
    rcases hb k hk with e | e
    · exact Nat.le_of_eq (hubB_nil e).symm
    · omega
  clear ha hc hb hne1
  go_wp2_with fail
  refine (Post_t (A1.out.alloc _) _ [5, 6, 7] (rdI_new w2 [5, 6, 7] 3 (by decide)) (by intro _ g hg hB; cases hg; exact absurd (A1.out.lt hB) (Nat.lt_irrefl _)) 0 (by intro t ht; simp [HubS.new] at ht; subst ht; exact Nat.le_refl _) (by decide)).mono ?_
  rintro e w3 ⟨he, ha, hc⟩
  obtain rfl : e = .returned (I 2) := he
  have A2 : Hid (HubAt w3 h v l ⟨[⟨true, [5, 6], 1⟩], 2⟩) := ha
  have C2 := hid ((C1.out.alloc _).trans hc (fun i hi e => by have := B1.out i e; omega))
  clear ha hc
  go_wp2_with fail
  refine (Take_t A2.out 0).mono ?_
  rintro e w4 ⟨he, ha, hc⟩
  obtain rfl : e = .returned (.tuple #[I 5, .bool true]) := he
  have A3 : Hid (HubAt w4 h v l ⟨[⟨true, [6], 1⟩], 2⟩) := ha
  have C3 := hid (C2.out.trans hc (fun i hi e => by have := B1.out i e; omega))
  clear ha hc
  go_wp2_with fail
  refine (Missed_t A3.out 0).mono ?_
  rintro e w4 ⟨he, rfl⟩
  obtain rfl : e = .returned (I 1) := he
  go_wp2_with fail
  refine (Len_t A3.out 0).mono ?_
  rintro e w4 ⟨he, rfl⟩
  obtain rfl : e = .returned (I 1) := he
  go_wp2
  go_ret
  exact ⟨rfl, C3.out⟩
end Go.Proofs.Ytjlmbmamkhneiaa
