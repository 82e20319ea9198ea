/- The walks of a hub: of, Take, Len, Missed, Shut, First, New. -/
import Derived.Test.YtjlmbmamkhneiaaTap
namespace Go.Proofs.Ytjlmbmamkhneiaa
open Go Go.RowKit Go.Conc

structure HubS where
  taps : List TapS
  room : Nat
abbrev ptr (p : Nat × Nat) : Value := .pointer (some ⟨p.1, 0, none⟩)
/-- A hub at block h, its row of taps the slice v, its taps at the blocks of l (each one's own and its channel's). -/
structure HubAt (w : World) (h : Nat) (v : Value) (l : List (Nat × Nat)) (H : HubS) : Prop where
  cells : w.heap[h]? = some (.cells #[v, I H.room] 117 (0, 0))
  row : w.ownsRow 0 118 1 v (l.map ptr).length (l.map ptr)
  len : l.length = H.taps.length
  taps : ∀ (i : Nat) (pc : Nat × Nat) (t : TapS), l[i]? = some pc → H.taps[i]? = some t → TapAt w pc.1 pc.2 H.room t
  apart : ∀ (i j : Nat) (pc pd : Nat × Nat), l[i]? = some pc → l[j]? = some pd → i ≠ j → pc.1 ≠ pd.1 ∧ pc.2 ≠ pd.2
  few : H.taps.length ≤ 16
  big : H.room ≤ 1024
/-- Its blocks. -/
def HubB (h : Nat) (v : Value) (l : List (Nat × Nat)) (k : Nat) : Prop := k = h ∨ v.ownBlock = some k ∨ ∃ pc ∈ l, k = pc.1 ∨ k = pc.2
theorem HubAt.move {w w' : World} {h : Nat} {v : Value} {l : List (Nat × Nat)} {H : HubS} (a : HubAt w h v l H) (hm : ∀ k, HubB h v l k → k < w.heap.size → w'.heap[k]? = w.heap[k]?) : HubAt w' h v l H := by
  refine ⟨(hm h (.inl rfl) (lt_of_block a.cells)).trans a.cells, ⟨a.row.1, ?_⟩, a.len, fun i pc t h1 h2 => ?_, a.apart, a.few, a.big⟩
  · rcases a.row.2 with hn | ⟨g, cap, cur, hv, hg, hh, r⟩
    · exact .inl hn
    · exact .inr ⟨g, cap, cur, hv, hg, (hm g (.inr (.inl (by rw [hv]; rfl))) (lt_of_block hh)).trans hh, r⟩
  · have ht := a.taps i pc t h1 h2
    have hmem := List.mem_of_getElem? h1
    obtain ⟨s, r, hc⟩ := ht.chan
    exact ht.move (hm _ (.inr (.inr ⟨pc, hmem, .inl rfl⟩)) (lt_of_block ht.cells)) (hm _ (.inr (.inr ⟨pc, hmem, .inr rfl⟩)) (lt_of_block hc))
theorem HubAt.chg {S : Nat → Prop} {w w' : World} {h : Nat} {v : Value} {l : List (Nat × Nat)} {H : HubS} (a : HubAt w h v l H) (c : Chg S w w') (hn : ∀ k, HubB h v l k → k < w.heap.size → ¬ S k) : HubAt w' h v l H :=
  a.move fun k hk hlt => c.block k hlt (hn k hk hlt)
theorem cells2 {w : World} {g : Nat} {t : TypeId} {x0 x1 : Value} (hg : w.heap[g]? = some (.cells #[x0, x1] t (0, 0))) :
    w.cell? ⟨g, 0, none⟩ = some x0 ∧ w.cell? ⟨g, 1, none⟩ = some x1 ∧ ∀ i, w.frozen? ⟨g, i, none⟩ = false :=
  ⟨by rw [cell_of_row w g 0 _ t _ hg]; rfl, by rw [cell_of_row w g 1 _ t _ hg]; rfl, fun i => frozen_of_row w g i _ t hg⟩
section
variable {w : World} {h : Nat} {v : Value} {l : List (Nat × Nat)} {H : HubS}
theorem HubAt.rd (a : HubAt w h v l H) : RdV w v (l.map ptr) := RdV.of_owns a.row
theorem HubAt.at (a : HubAt w h v l H) {i : Nat} (hi : i < H.taps.length) : ∃ pc, l[i]? = some pc ∧ TapAt w pc.1 pc.2 H.room H.taps[i] := by
  have hl : i < l.length := by rw [a.len]; exact hi
  exact ⟨l[i], List.getElem?_eq_getElem hl, a.taps i _ _ (List.getElem?_eq_getElem hl) (List.getElem?_eq_getElem hi)⟩
end
theorem of_nil (k : Int) (w : World) : Calls Try.prog 73 #[.pointer none, I k] w fun e w' => e = .returned (.pointer none) ∧ w = w' := by
  go_enter Try.func73, Try.ntmps73
  go_wp2
  go_ret
  exact ⟨rfl, rfl⟩
theorem of_out {w : World} {h : Nat} {v : Value} {l : List (Nat × Nat)} {H : HubS} (a : HubAt w h v l H) (k : Int) (hk : ¬ (0 ≤ k ∧ k < H.taps.length)) :
    Calls Try.prog 73 #[.pointer (some ⟨h, 0, none⟩), I k] w fun e w' => e = .returned (.pointer none) ∧ w = w' := by
  obtain ⟨h0, h1, hf⟩ := cells2 a.cells
  obtain ⟨ad, c, rfl⟩ := a.rd.shape
  have hl : (l.map ptr).length = H.taps.length := by rw [List.length_map, a.len]
  rw [hl] at h0
  by_cases hneg : k < 0
  · go_enter Try.func73, Try.ntmps73
    go_wp2
    go_ret
    exact ⟨rfl, rfl⟩
  · have hge : (H.taps.length : Int) ≤ k := by omega
    go_enter Try.func73, Try.ntmps73
    go_wp2
    go_ret
    exact ⟨rfl, rfl⟩
theorem of_in {w : World} {h : Nat} {v : Value} {l : List (Nat × Nat)} {H : HubS} (a : HubAt w h v l H) (i : Nat) (pc : Nat × Nat) (hi : i < H.taps.length) (hpc : l[i]? = some pc) :
    Calls Try.prog 73 #[.pointer (some ⟨h, 0, none⟩), I i] w fun e w' => e = .returned (ptr pc) ∧ w = w' := by
  obtain ⟨h0, h1, hf⟩ := cells2 a.cells
  obtain ⟨ad, c, rfl, _, _, hc⟩ := a.rd
  obtain ⟨g, off, rfl, hcell⟩ := hc i (ptr pc) (by rw [List.getElem?_map, hpc]; rfl)
  have hl : (l.map ptr).length = H.taps.length := by rw [List.length_map, a.len]
  rw [hl] at h0
  have hfew := a.few
  clear hc
  go_enter Try.func73, Try.ntmps73
  go_wp2
  go_ret
  exact ⟨rfl, rfl⟩
/-- One tap is put in the place of another one. -/
def HubS.put (H : HubS) (i : Nat) (t : TapS) : HubS := { H with taps := H.taps.set i t }
theorem HubAt.put {w w' : World} {h : Nat} {v : Value} {l : List (Nat × Nat)} {H : HubS} (a : HubAt w h v l H) {i : Nat} {pc : Nat × Nat} (hi : i < H.taps.length) (hpc : l[i]? = some pc) {t' : TapS}
    (ht : TapAt w' pc.1 pc.2 H.room t') (hc : Chg (fun k => k = pc.1 ∨ k = pc.2) w w') : HubAt w' h v l (H.put i t') := by
  have h0 := a.taps i pc _ hpc (List.getElem?_eq_getElem hi)
  obtain ⟨s0, r0, hc0⟩ := h0.chan
  have e1 : ¬ (h = pc.1 ∨ h = pc.2) := by
    rintro (e | e)
    · have := a.cells; rw [e, h0.cells] at this; simp at this
    · have := a.cells; rw [e, hc0] at this; simp at this
  refine ⟨(hc.block h (lt_of_block a.cells) e1).trans a.cells, ⟨a.row.1, ?_⟩, by rw [HubS.put, List.length_set]; exact a.len, fun j pd t h1 h2 => ?_, a.apart, by rw [HubS.put, List.length_set]; exact a.few, a.big⟩
  · rcases a.row.2 with hn | ⟨g, cap, cur, hv, hg, hh, r⟩
    · exact .inl hn
    · refine .inr ⟨g, cap, cur, hv, hg, (hc.block g (lt_of_block hh) ?_).trans hh, r⟩
      rintro (e | e)
      · rw [e, h0.cells] at hh; simp at hh
      · rw [e, hc0] at hh; simp at hh
  · by_cases hij : j = i
    · subst hij
      rw [hpc] at h1
      cases h1
      have : t = t' := by rw [HubS.put] at h2; simp [hi] at h2; exact h2.symm
      subst this
      exact ht
    · have h2' : H.taps[j]? = some t := by rw [HubS.put] at h2; rw [← h2]; exact (List.getElem?_set_ne (Ne.symm hij)).symm
      have htj := a.taps j pd t h1 h2'
      obtain ⟨sj, rj, hcj⟩ := htj.chan
      obtain ⟨n1, n2⟩ := a.apart j i pd pc h1 hpc hij
      refine htj.move (hc.block _ (lt_of_block htj.cells) ?_) (hc.block _ (lt_of_block hcj) ?_)
      · rintro (e | e)
        · exact n1 e
        · have := htj.cells; rw [e, hc0] at this; simp at this
      · rintro (e | e)
        · rw [e, h0.cells] at hcj; simp at hcj
        · exact n2 e
theorem pc_hub {h : Nat} {v : Value} {l : List (Nat × Nat)} {i : Nat} {pc : Nat × Nat} (hpc : l[i]? = some pc) : ∀ k, (k = pc.1 ∨ k = pc.2) → HubB h v l k :=
  fun _ hk => .inr (.inr ⟨pc, List.mem_of_getElem? hpc, hk⟩)

/-- What Take answers, and the hub behind it. -/
def HubS.take (H : HubS) (k : Int) : HubS × Int × Bool :=
  if 0 ≤ k ∧ k < H.taps.length then
    match H.taps[k.toNat]? with
    | some t => if t.buf.isEmpty then (H, 0, false) else (H.put k.toNat t.took, t.buf.headD 0, true)
    | none => (H, 0, false)
  else (H, 0, false)
theorem set_self {α : Type} (l : List α) (i : Nat) (x : α) (h : l[i]? = some x) : l.set i x = l := by
  apply List.ext_getElem?
  intro j
  by_cases hj : j = i
  · subst hj
    have hlt := (List.getElem?_eq_some_iff.1 h).1
    rw [List.getElem?_set_self hlt, h]
  · rw [List.getElem?_set_ne (Ne.symm hj)]
theorem took_empty {t : TapS} (h : t.buf.isEmpty = true) : t.took = t := by
  obtain ⟨o, b, m⟩ := t
  simp at h
  subst h
  rfl
theorem Take_t {w : World} {h : Nat} {v : Value} {l : List (Nat × Nat)} {H : HubS} (a : HubAt w h v l H) (k : Int) :
    Calls Try.prog 44 #[.pointer (some ⟨h, 0, none⟩), I k] w fun e w' => e = .returned (.tuple #[I (H.take k).2.1, .bool (H.take k).2.2]) ∧ HubAt w' h v l (H.take k).1 ∧ Chg (HubB h v l) w w' := by
  have A := hid a
  by_cases hk : 0 ≤ k ∧ k < H.taps.length
  · obtain ⟨i, rfl⟩ : ∃ i : Nat, k = i := ⟨k.toNat, by omega⟩
    have hi : i < H.taps.length := by omega
    obtain ⟨pc, hpc, ht⟩ := a.at hi
    have HP := hid hpc
    have HT := hid ht
    have HE := hid (show H.take i = if H.taps[i].buf.isEmpty then (H, 0, false) else (H.put i H.taps[i].took, H.taps[i].buf.headD 0, true) by
      rw [HubS.take, if_pos hk, Int.toNat_natCast, List.getElem?_eq_getElem hi])
    clear hpc ht a hk
    go_enter Try.func44, Try.ntmps44
    go_wp2_with fail
    refine (of_in A.out i pc hi HP.out).mono ?_
    rintro e w' ⟨rfl, rfl⟩
    go_wp2_with fail
    refine (take_t pc.1 pc.2 H.room H.taps[i] _ HT.out).mono ?_
    rintro e w' ⟨rfl, ht', hc⟩
    have HT2 := hid ht'
    have HC := hid hc
    clear ht' hc
    go_wp2
    go_ret2
    have hput := A.out.put hi HP.out HT2.out HC.out
    refine ⟨?_, ?_, HC.out.mono fun k _ hk => pc_hub HP.out k hk⟩
    · rw [HE.out]
      cases hb : H.taps[i].buf <;> simp
    · rw [HE.out]
      by_cases hb : H.taps[i].buf.isEmpty = true
      · rw [if_pos hb]
        rw [took_empty hb, HubS.put, set_self _ _ _ (List.getElem?_eq_getElem hi)] at hput
        exact hput
      · rw [if_neg hb]; exact hput
  · have HE := hid (show H.take k = (H, 0, false) by rw [HubS.take, if_neg hk])
    go_enter Try.func44, Try.ntmps44
    go_wp2_with fail
    refine (of_out A.out k hk).mono ?_
    rintro e w' ⟨rfl, rfl⟩
    clear hk
    go_wp2
    go_ret2
    exact ⟨by rw [HE.out]; rfl, by rw [HE.out]; exact A.out, Chg.refl _ _⟩
theorem Take_nil (k : Int) (w : World) : Calls Try.prog 44 #[.pointer none, I k] w fun e w' => e = .returned (.tuple #[I 0, .bool false]) ∧ w = w' := by
  go_enter Try.func44, Try.ntmps44
  go_wp2_with fail
  refine (of_nil k _).mono ?_
  rintro e w' ⟨rfl, rfl⟩
  go_wp2
  go_ret2
  exact ⟨rfl, rfl⟩

def HubS.len (H : HubS) (k : Int) : Nat := if 0 ≤ k ∧ k < H.taps.length then ((H.taps[k.toNat]?).map (·.buf.length)).getD 0 else 0
def HubS.missed (H : HubS) (k : Int) : Nat := if 0 ≤ k ∧ k < H.taps.length then ((H.taps[k.toNat]?).map (·.missed)).getD 0 else 0
theorem Len_t {w : World} {h : Nat} {v : Value} {l : List (Nat × Nat)} {H : HubS} (a : HubAt w h v l H) (k : Int) :
    Calls Try.prog 45 #[.pointer (some ⟨h, 0, none⟩), I k] w fun e w' => e = .returned (I (H.len k)) ∧ w = w' := by
  have A := hid a
  by_cases hk : 0 ≤ k ∧ k < H.taps.length
  · obtain ⟨i, rfl⟩ : ∃ i : Nat, k = i := ⟨k.toNat, by omega⟩
    have hi : i < H.taps.length := by omega
    obtain ⟨pc, hpc, ht⟩ := a.at hi
    have HP := hid hpc
    obtain ⟨h0, h1, h2, hf⟩ := cells3 ht.cells
    obtain ⟨s, r, hc⟩ := ht.chan
    have hlen := fun ty => run_len_chan (P := Try.prog) 119 ty Try.underlying119 hc
    have HE := hid (show H.len i = H.taps[i].buf.length by rw [HubS.len, if_pos hk, Int.toNat_natCast, List.getElem?_eq_getElem hi]; rfl)
    clear hpc ht a hk hc
    go_enter Try.func45, Try.ntmps45
    go_wp2_with fail
    refine (of_in A.out i pc hi HP.out).mono ?_
    rintro e w' ⟨rfl, rfl⟩
    go_wp2
    go_ret
    exact ⟨by rw [HE.out]; simp, rfl⟩
  · have HE := hid (show H.len k = 0 by rw [HubS.len, if_neg hk])
    go_enter Try.func45, Try.ntmps45
    go_wp2_with fail
    refine (of_out A.out k hk).mono ?_
    rintro e w' ⟨rfl, rfl⟩
    clear hk
    go_wp2
    go_ret
    exact ⟨by rw [HE.out]; rfl, rfl⟩
theorem Len_nil (k : Int) (w : World) : Calls Try.prog 45 #[.pointer none, I k] w fun e w' => e = .returned (I 0) ∧ w = w' := by
  go_enter Try.func45, Try.ntmps45
  go_wp2_with fail
  refine (of_nil k _).mono ?_
  rintro e w' ⟨rfl, rfl⟩
  go_wp2
  go_ret
  exact ⟨rfl, rfl⟩
theorem Missed_t {w : World} {h : Nat} {v : Value} {l : List (Nat × Nat)} {H : HubS} (a : HubAt w h v l H) (k : Int) :
    Calls Try.prog 46 #[.pointer (some ⟨h, 0, none⟩), I k] w fun e w' => e = .returned (I (H.missed k)) ∧ w = w' := by
  have A := hid a
  by_cases hk : 0 ≤ k ∧ k < H.taps.length
  · obtain ⟨i, rfl⟩ : ∃ i : Nat, k = i := ⟨k.toNat, by omega⟩
    have hi : i < H.taps.length := by omega
    obtain ⟨pc, hpc, ht⟩ := a.at hi
    have HP := hid hpc
    obtain ⟨h0, h1, h2, hf⟩ := cells3 ht.cells
    have HE := hid (show H.missed i = H.taps[i].missed by rw [HubS.missed, if_pos hk, Int.toNat_natCast, List.getElem?_eq_getElem hi]; rfl)
    clear hpc ht a hk
    go_enter Try.func46, Try.ntmps46
    go_wp2_with fail
    refine (of_in A.out i pc hi HP.out).mono ?_
    rintro e w' ⟨rfl, rfl⟩
    go_wp2
    go_ret
    exact ⟨by rw [HE.out]; rfl, rfl⟩
  · have HE := hid (show H.missed k = 0 by rw [HubS.missed, if_neg hk])
    go_enter Try.func46, Try.ntmps46
    go_wp2_with fail
    refine (of_out A.out k hk).mono ?_
    rintro e w' ⟨rfl, rfl⟩
    clear hk
    go_wp2
    go_ret
    exact ⟨by rw [HE.out]; rfl, rfl⟩
theorem Missed_nil (k : Int) (w : World) : Calls Try.prog 46 #[.pointer none, I k] w fun e w' => e = .returned (I 0) ∧ w = w' := by
  go_enter Try.func46, Try.ntmps46
  go_wp2_with fail
  refine (of_nil k _).mono ?_
  rintro e w' ⟨rfl, rfl⟩
  go_wp2
  go_ret
  exact ⟨rfl, rfl⟩

def HubS.shut (H : HubS) (k : Int) : HubS × Bool :=
  if 0 ≤ k ∧ k < H.taps.length then
    match H.taps[k.toNat]? with
    | some t => if t.op = true then (H.put k.toNat { t with op := false }, true) else (H, false)
    | none => (H, false)
  else (H, false)
theorem Shut_t {w : World} {h : Nat} {v : Value} {l : List (Nat × Nat)} {H : HubS} (a : HubAt w h v l H) (k : Int) :
    Calls Try.prog 48 #[.pointer (some ⟨h, 0, none⟩), I k] w fun e w' => e = .returned (.bool (H.shut k).2) ∧ HubAt w' h v l (H.shut k).1 ∧ Chg (HubB h v l) w w' := by
  have A := hid a
  by_cases hk : 0 ≤ k ∧ k < H.taps.length
  · obtain ⟨i, rfl⟩ : ∃ i : Nat, k = i := ⟨k.toNat, by omega⟩
    have hi : i < H.taps.length := by omega
    obtain ⟨pc, hpc, ht⟩ := a.at hi
    have HP := hid hpc
    have HT := hid ht
    obtain ⟨h0, h1, h2, hf⟩ := cells3 ht.cells
    have HE := hid (show H.shut i = if H.taps[i].op = true then (H.put i { H.taps[i] with op := false }, true) else (H, false) by
      rw [HubS.shut, if_pos hk, Int.toNat_natCast, List.getElem?_eq_getElem hi])
    clear hpc ht a hk
    cases ho : H.taps[i].op
    · rw [ho] at h1
      have HO := hid ho
      clear ho
      go_enter Try.func48, Try.ntmps48
      go_wp2_with fail
      refine (of_in A.out i pc hi HP.out).mono ?_
      rintro e w' ⟨rfl, rfl⟩
      go_wp2
      go_ret
      rw [HE.out, if_neg (by rw [HO.out]; decide)]
      exact ⟨rfl, A.out, Chg.refl _ _⟩
    · rw [ho] at h1
      have HO := hid ho
      clear ho
      go_enter Try.func48, Try.ntmps48
      go_wp2_with fail
      refine (of_in A.out i pc hi HP.out).mono ?_
      rintro e w' ⟨rfl, rfl⟩
      go_wp2
      go_ret
      rw [HE.out, if_pos HO.out]
      have hc : Chg (fun k => k = pc.1 ∨ k = pc.2) w (w.setCell ⟨pc.1, 1, none⟩ (.bool false)) := (Chg.refl _ _).setCell (fun _ => .inl rfl) _
      obtain ⟨s, r, hch⟩ := HT.out.chan
      refine ⟨rfl, A.out.put hi HP.out ⟨?_, s, r, (heap_setCell_other _ _ _ _ (Ne.symm HT.out.ne)).trans hch⟩ hc, hc.mono fun k _ hk => pc_hub HP.out k hk⟩
      exact heap_setCell_same w pc.1 1 _ 121 _ HT.out.cells
  · have HE := hid (show H.shut k = (H, false) by rw [HubS.shut, if_neg hk])
    go_enter Try.func48, Try.ntmps48
    go_wp2_with fail
    refine (of_out A.out k hk).mono ?_
    rintro e w' ⟨rfl, rfl⟩
    clear hk
    go_wp2
    go_ret
    exact ⟨by rw [HE.out]; rfl, by rw [HE.out]; exact A.out, Chg.refl _ _⟩
theorem Shut_nil (k : Int) (w : World) : Calls Try.prog 48 #[.pointer none, I k] w fun e w' => e = .returned (.bool false) ∧ w = w' := by
  go_enter Try.func48, Try.ntmps48
  go_wp2_with fail
  refine (of_nil k _).mono ?_
  rintro e w' ⟨rfl, rfl⟩
  go_wp2
  go_ret
  exact ⟨rfl, rfl⟩
end Go.Proofs.Ytjlmbmamkhneiaa
