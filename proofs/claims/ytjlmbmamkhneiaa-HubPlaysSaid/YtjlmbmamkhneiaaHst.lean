/- Both hubs side by side: what stands where in the midst of a step. -/
import Derived.Test.YtjlmbmamkhneiaaRht
import Derived.Deep.RegionHeld3
import Derived.Deep.CutBlock
namespace Go.Proofs.Ytjlmbmamkhneiaa
open Go Go.RowKit
set_option linter.unusedVariables false
theorem HubAt.notB {w : World} {h : Nat} {v : Value} {l : List (Nat × Nat)} {H : HubS} (a : HubAt w h v l H) {k : Nat} {cs : Array Value} {t : TypeId} {fr : Nat × Nat} (hk : w.heap[k]? = some (.cells cs t fr)) (ht : t ∉ [117, 118, 121]) : ¬ HubB h v l k := by
  rintro (rfl | hv | ⟨pc, hm, e⟩)
  · rw [a.cells] at hk; cases hk; simp at ht
  · obtain ⟨_, _, c, hc⟩ := owns_block a.row hv
    rw [hc] at hk; cases hk; simp at ht
  · obtain ⟨i, hi, rfl⟩ := List.mem_iff_getElem.1 hm
    have ta := a.taps i l[i] _ (List.getElem?_eq_getElem hi) (List.getElem?_eq_getElem (by rw [← a.len]; exact hi))
    rcases e with e | e
    · rw [e, ta.cells] at hk; cases hk; simp at ht
    · obtain ⟨s, r, hc⟩ := ta.chan
      rw [e, hc] at hk; cases hk
theorem HubAt.stays {w w' : World} {h : Nat} {v : Value} {l : List (Nat × Nat)} {H : HubS} (a : HubAt w h v l H) (c : Chg (HubB h v l) w w') {ts : List TypeId} (ht : ∀ t ∈ ts, t ∉ [117, 118, 121]) : Stay ts w w' :=
  .of_chg c fun k cs t fr hk h => a.notB hk (ht t h)
/-- The step's three boxes: the document's hub, the call, the result. -/
structure Boxes (w : World) (b : Nat) (v : Value) (room : Nat) (z0 z1 : Int) (vk vl : Value) : Prop where
  box : w.heap[b]? = some (.cells #[v, I room] 73 (0, 0))
  opb : w.heap[b + 1]? = some (.cells #[I z0, I z1, vk, vl] 76 (0, 0))
  res : w.heap[b + 2]? = some (.cells #[.slice none 0 0, I 0] 73 (0, 0))
theorem Boxes.stay {w w' : World} {b room : Nat} {v vk vl : Value} {z0 z1 : Int} (h : Boxes w b v room z0 z1 vk vl) {ts : List TypeId} (s : Stay ts w w') (h1 : 73 ∈ ts) (h2 : 76 ∈ ts) : Boxes w' b v room z0 z1 vk vl :=
  ⟨s _ _ _ _ h.box h1, s _ _ _ _ h.opb h2, s _ _ _ _ h.res h1⟩
theorem Boxes.new {w w' : World} {b room : Nat} {v vk vl : Value} {z0 z1 : Int} (h : Boxes w b v room z0 z1 vk vl) (c : New w w') : Boxes w' b v room z0 z1 vk vl := h.stay (ts := [73, 76]) (.new c) (by simp) (by simp)
theorem Boxes.setV {w : World} {b room : Nat} {v vk vl : Value} {z0 z1 : Int} (h : Boxes w b v room z0 z1 vk vl) (v' : Value) : Boxes (w.setCell ⟨b, 0, none⟩ v') b v' room z0 z1 vk vl :=
  ⟨heap_setCell_same w b 0 _ 73 v' h.box, (heap_setCell_other _ _ _ _ (by simp)).trans h.opb, (heap_setCell_other _ _ _ _ (by simp)).trans h.res⟩
theorem Boxes.setL {w : World} {b room : Nat} {v vk vl : Value} {z0 z1 : Int} (h : Boxes w b v room z0 z1 vk vl) (vl' : Value) : Boxes (w.setCell ⟨b + 1, 3, none⟩ vl') b v room z0 z1 vk vl' :=
  ⟨(heap_setCell_other _ _ _ _ (by simp)).trans h.box, heap_setCell_same w (b + 1) 3 _ 76 vl' h.opb, (heap_setCell_other _ _ _ _ (by simp)).trans h.res⟩
theorem Boxes.setK {w : World} {b room : Nat} {v vk vl : Value} {z0 z1 : Int} (h : Boxes w b v room z0 z1 vk vl) (vk' : Value) : Boxes (w.setCell ⟨b + 1, 2, none⟩ vk') b v room z0 z1 vk' vl :=
  ⟨(heap_setCell_other _ _ _ _ (by simp)).trans h.box, heap_setCell_same w (b + 1) 2 _ 76 vk' h.opb, (heap_setCell_other _ _ _ _ (by simp)).trans h.res⟩
theorem cells4 {w : World} {g : Nat} {t : TypeId} {x0 x1 x2 x3 : Value} (hg : w.heap[g]? = some (.cells #[x0, x1, x2, x3] t (0, 0))) :
    w.cell? ⟨g, 0, none⟩ = some x0 ∧ w.cell? ⟨g, 1, none⟩ = some x1 ∧ w.cell? ⟨g, 2, none⟩ = some x2 ∧ w.cell? ⟨g, 3, none⟩ = some x3 ∧ ∀ i, w.frozen? ⟨g, i, none⟩ = false :=
  ⟨by rw [cell_of_row w g 0 _ t _ hg]; rfl, by rw [cell_of_row w g 1 _ t _ hg]; rfl, by rw [cell_of_row w g 2 _ t _ hg]; rfl, by rw [cell_of_row w g 3 _ t _ hg]; rfl, fun i => frozen_of_row w g i _ t hg⟩
/-- All that stands in the midst of a step: both hubs, the boxes, the call's two slices. -/
structure HI (S : Nat → Prop) (w0 w : World) (h : Nat) (H : HubS) (v : Value) (T : List TapS) (z0 z1 : Int) (vk vl : Value) (ks ls : List Int) : Prop where
  hub : ∃ hv l, HubAt w h hv l H ∧ ∀ k, HubB h hv l k → S k
  ref : ∃ vs, RHub w v vs T
  bx : Boxes w w0.heap.size v H.room z0 z1 vk vl
  rk : RdI w vk ks
  rl : RdI w vl ls
  kn : ks ≠ [] → ∀ g, vk.ownBlock = some g → ¬ S g
  ln : ls ≠ [] → ∀ g, vl.ownBlock = some g → ¬ S g
  fr : Chg S w0 w
  sn : ∀ k, w0.heap.size ≤ k → S k
theorem rdI_keep {S : Nat → Prop} {w w' : World} {v : Value} {b : List Int} (h : RdI w v b) (c : Chg S w w') (hn : b ≠ [] → ∀ g, v.ownBlock = some g → ¬ S g) : RdI w' v b := by
  by_cases hb : b = []
  · subst hb
    obtain ⟨a, k, e, h1, h2, _⟩ := h
    exact ⟨a, k, e, h1, h2, fun j u hu => by simp at hu⟩
  · exact h.chg c (fun g hg _ => hn hb g hg)
section
variable {S : Nat → Prop} {w0 w w' : World} {h : Nat} {H H' : HubS} {v : Value} {T T' : List TapS} {z0 z1 : Int} {vk vl : Value} {ks ls : List Int}
theorem HI.new (i : HI S w0 w h H v T z0 z1 vk vl ks ls) (c : New w w') : HI S w0 w' h H v T z0 z1 vk vl ks ls := by
  obtain ⟨hv, l, ha, hs⟩ := i.hub
  obtain ⟨vs, hr⟩ := i.ref
  exact ⟨⟨hv, l, ha.chg c (fun _ _ _ e => e), hs⟩, ⟨vs, hr.new c⟩, i.bx.new c, rdI_keep i.rk c (fun _ _ _ e => e), rdI_keep i.rl c (fun _ _ _ e => e), i.kn, i.ln, i.fr.trans c (fun _ _ e => e.elim), i.sn⟩
/-- The program's hub acts. -/
theorem HI.act (i : HI S w0 w h H v T z0 z1 vk vl ks ls) {hv hv' : Value} {l l' : List (Nat × Nat)} (ha : HubAt w h hv l H) (hs : ∀ k, HubB h hv l k → S k) (ha' : HubAt w' h hv' l' H') (c : Chg (HubB h hv l) w w') (hb : ∀ k, HubB h hv' l' k → HubB h hv l k ∨ w.heap.size ≤ k) (hroom : H'.room = H.room) : HI S w0 w' h H' v T z0 z1 vk vl ks ls := by
  obtain ⟨vs, hr⟩ := i.ref
  have s : Stay [3, 80, 73, 76] w w' := ha.stays c (by decide)
  refine ⟨⟨hv', l', ha', fun k hk => ?_⟩, ⟨vs, hr.stay s (by simp) (by simp)⟩, by rw [hroom]; exact i.bx.stay s (by simp) (by simp), rdI_keep i.rk c (fun hn g hg e => i.kn hn g hg (hs g e)), rdI_keep i.rl c (fun hn g hg e => i.ln hn g hg (hs g e)), i.kn, i.ln, i.fr.trans c (fun k _ e => hs k e), i.sn⟩
  rcases hb k hk with e | e
  · exact hs k e
  · exact i.sn k (Nat.le_trans i.fr.size e)
/-- The document's hub acts: new blocks alone. -/
theorem HI.refd (i : HI S w0 w h H v T z0 z1 vk vl ks ls) (c : New w w') {v' : Value} {vs' : List Value} (hr : RHub w' v' vs' T') : HI S w0 (w'.setCell ⟨w0.heap.size, 0, none⟩ v') h H v' T' z0 z1 vk vl ks ls := by
  have i' := i.new c
  obtain ⟨hv, l, ha, hs⟩ := i'.hub
  have cs : Chg (fun k => k = w0.heap.size) w' (w'.setCell ⟨w0.heap.size, 0, none⟩ v') := Chg.setCell (S := fun k => k = w0.heap.size) (p := ⟨w0.heap.size, 0, none⟩) (Chg.refl _ w') (fun _ => rfl) v'
  have nb : ∀ k, k = w0.heap.size → ¬ HubB h hv l k := fun k e => by subst e; exact ha.notB i'.bx.box (by decide)
  have hsz : S w0.heap.size := i.sn _ (Nat.le_refl _)
  exact ⟨⟨hv, l, ha.chg cs (fun k hk _ e => nb k e hk), hs⟩, ⟨vs', hr.stay (ts := [3, 80]) (Stay.set i'.bx.box (by simp) 0 v') (by simp) (by simp)⟩, i'.bx.setV v',
    rdI_keep i'.rk cs (fun hn g hg e => i.kn hn g hg (by rw [e]; exact hsz)), rdI_keep i'.rl cs (fun hn g hg e => i.ln hn g hg (by rw [e]; exact hsz)), i.kn, i.ln, i'.fr.trans cs (fun k _ e => by rw [e]; exact hsz), i.sn⟩
end
theorem HI.room {S : Nat → Prop} {w0 w : World} {h : Nat} {H : HubS} {v : Value} {T : List TapS} {z0 z1 : Int} {vk vl : Value} {ks ls : List Int} (i : HI S w0 w h H v T z0 z1 vk vl ks ls) (x : Value) (hx : x = I H.room) : HI S w0 (w.setCell ⟨w0.heap.size, 1, none⟩ x) h H v T z0 z1 vk vl ks ls := by
  subst hx
  obtain ⟨hv, l, ha, hs⟩ := i.hub
  obtain ⟨vs, hr⟩ := i.ref
  have c : Chg (fun k => k = w0.heap.size) w (w.setCell ⟨w0.heap.size, 1, none⟩ (I H.room)) := Chg.setCell (S := fun k => k = w0.heap.size) (p := ⟨w0.heap.size, 1, none⟩) (Chg.refl _ w) (fun _ => rfl) _
  have nb : ∀ k, k = w0.heap.size → ¬ HubB h hv l k := fun k e => by subst e; exact ha.notB i.bx.box (by decide)
  have hS : S w0.heap.size := i.sn _ (Nat.le_refl _)
  exact ⟨⟨hv, l, ha.chg c (fun k hk _ e => nb k e hk), hs⟩, ⟨vs, hr.stay (ts := [3, 80]) (Stay.set i.bx.box (by simp) 1 _) (by simp) (by simp)⟩,
    ⟨heap_setCell_same w _ 1 _ 73 _ i.bx.box, (heap_setCell_other _ _ _ _ (by simp)).trans i.bx.opb, (heap_setCell_other _ _ _ _ (by simp)).trans i.bx.res⟩,
    rdI_keep i.rk c (fun hn g' hg' e => i.kn hn g' hg' (by rw [e]; exact hS)), rdI_keep i.rl c (fun hn g' hg' e => i.ln hn g' hg' (by rw [e]; exact hS)), i.kn, i.ln, i.fr.trans c (fun k _ e => by rw [e]; exact hS), i.sn⟩
/-- A cell of the document's row of taps was written. -/
theorem HI.stored {S : Nat → Prop} {w0 w : World} {h : Nat} {H : HubS} {v : Value} {T T' : List TapS} {vs' : List Value} {z0 z1 : Int} {vk vl : Value} {ks ls : List Int} (i : HI S w0 w h H v T z0 z1 vk vl ks ls) {g : Nat} {cs : Array Value} {fr : Nat × Nat} (hg : w.heap[g]? = some (.cells cs 80 fr)) (hS : S g) (j : Nat) (u : Value)
    (hr : RHub (w.setCell ⟨g, j, none⟩ u) v vs' T') : HI S w0 (w.setCell ⟨g, j, none⟩ u) h H v T' z0 z1 vk vl ks ls := by
  obtain ⟨hv, l, ha, hs⟩ := i.hub
  have c : Chg (fun k => k = g) w (w.setCell ⟨g, j, none⟩ u) := Chg.setCell (S := fun k => k = g) (p := ⟨g, j, none⟩) (Chg.refl _ w) (fun _ => rfl) u
  have nb : ∀ k, k = g → ¬ HubB h hv l k := fun k e => by subst e; exact ha.notB hg (by decide)
  exact ⟨⟨hv, l, ha.chg c (fun k hk _ e => nb k e hk), hs⟩, ⟨vs', hr⟩, i.bx.stay (ts := [73, 76]) (Stay.set hg (by simp) j u) (by simp) (by simp),
    rdI_keep i.rk c (fun hn g' hg' e => i.kn hn g' hg' (by rw [e]; exact hS)), rdI_keep i.rl c (fun hn g' hg' e => i.ln hn g' hg' (by rw [e]; exact hS)), i.kn, i.ln, i.fr.trans c (fun k _ e => by rw [e]; exact hS), i.sn⟩
theorem RHub.chan3 {w : World} {v : Value} {vs : List Value} {T : List TapS} (h : RHub w v vs T) {g cap : Nat} (hv : v = .slice (some ⟨g, 0, none⟩) T.length cap) {i : Nat} (hi : i < T.length) : w.cell? ⟨g, i * 3 + 1, none⟩ = some (.bool T[i].op) := by
  obtain ⟨g', cap', u', hv', _, k1, _, _, _⟩ := h.at hi
  rw [hv] at hv'
  injection hv' with ea
  injection ea with ea
  injection ea with ea
  rw [ea]; exact k1
/-- What a step leaves. -/
def StepOut (S : Nat → Prop) (w w' : World) (h room M : Nat) (v' : Value) : Prop :=
  Chg S w w' ∧ ∃ hv' l' H' vs', HubAt w' h hv' l' H' ∧ (∀ k, HubB h hv' l' k → S k) ∧ RHub w' v' vs' H'.taps ∧ H'.room = room ∧ H'.low M
theorem HI.fin {S : Nat → Prop} {w0 w : World} {h : Nat} {H : HubS} {v v' : Value} {T : List TapS} {vs' : List Value} {z0 z1 : Int} {vk vl : Value} {ks ls : List Int} {room M : Nat} (i : HI S w0 w h H v T z0 z1 vk vl ks ls) (hr : RHub w v' vs' H.taps) (hroom : H.room = room) (hlow : H.low M) (x : Value) (hx : x = I room) :
    (((w.setCell ⟨w0.heap.size + 2, 0, none⟩ v').setCell ⟨w0.heap.size + 2, 1, none⟩ x).heap[w0.heap.size + 2]? = some (.cells #[v', I room] 73 (0, 0))) ∧ StepOut S w0 ((w.setCell ⟨w0.heap.size + 2, 0, none⟩ v').setCell ⟨w0.heap.size + 2, 1, none⟩ x) h room M v' := by
  subst hx
  obtain ⟨hv, l, ha, hs⟩ := i.hub
  have e1 := heap_setCell_same w (w0.heap.size + 2) 0 _ 73 v' i.bx.res
  have e2 := heap_setCell_same _ (w0.heap.size + 2) 1 _ 73 (I room) e1
  have cs : Chg (fun k => k = w0.heap.size + 2) w ((w.setCell ⟨w0.heap.size + 2, 0, none⟩ v').setCell ⟨w0.heap.size + 2, 1, none⟩ (I room)) := Chg.setCell (S := fun k => k = w0.heap.size + 2) (p := ⟨w0.heap.size + 2, 1, none⟩) (Chg.setCell (S := fun k => k = w0.heap.size + 2) (p := ⟨w0.heap.size + 2, 0, none⟩) (Chg.refl _ w) (fun _ => rfl) v') (fun _ => rfl) (I room)
  have nb : ∀ k, k = w0.heap.size + 2 → ¬ HubB h hv l k := fun k e => by subst e; exact ha.notB i.bx.res (by decide)
  refine ⟨e2, i.fr.trans cs (fun k _ e => by rw [e]; exact i.sn _ (by omega)), hv, l, H, vs', ha.chg cs (fun k hk _ e => nb k e hk), hs, hr.stay (ts := [3, 80]) ((Stay.set i.bx.res (by simp) 0 v').trans (Stay.set e1 (by simp) 1 _)) (by simp) (by simp), hroom, hlow⟩
theorem mem_set' {α : Type} {l : List α} {i : Nat} {x y : α} (h : y ∈ l.set i x) : y ∈ l ∨ y = x := List.mem_or_eq_of_mem_set h
theorem take_room (H : HubS) (k : Int) : (H.take k).1.room = H.room := by
  unfold HubS.take; split
  · split
    · split <;> rfl
    · rfl
  · rfl
theorem take_low {H : HubS} {M : Nat} (h : H.low M) (k : Int) : (H.take k).1.low M := by
  unfold HubS.take; split
  · split
    · rename_i t ht
      split
      · exact h
      · intro u hu
        rcases mem_set' hu with hu | rfl
        · exact h u hu
        · exact h t (List.mem_of_getElem? ht)
    · exact h
  · exact h
theorem first_room (H : HubS) : ∀ ks : List Int, (H.first ks).1.room = H.room
  | [] => rfl
  | k :: ks => by
    unfold HubS.first; split
    · exact take_room H k
    · exact first_room H ks
theorem first_low {H : HubS} {M : Nat} (h : H.low M) : ∀ ks : List Int, (H.first ks).1.low M
  | [] => h
  | k :: ks => by
    unfold HubS.first; split
    · exact take_low h k
    · exact first_low h ks
theorem shut_room (H : HubS) (k : Int) : (H.shut k).1.room = H.room := by
  unfold HubS.shut; split
  · split
    · split <;> rfl
    · rfl
  · rfl
theorem shut_low {H : HubS} {M : Nat} (h : H.low M) (k : Int) : (H.shut k).1.low M := by
  unfold HubS.shut; split
  · split
    · rename_i t ht
      split
      · intro u hu
        rcases mem_set' hu with hu | rfl
        · exact h u hu
        · exact h t (List.mem_of_getElem? ht)
      · exact h
    · exact h
  · exact h
theorem shut_true {H : HubS} {k : Int} (h : (H.shut k).2 = true) : ∃ (i : Nat) (hi : i < H.taps.length), k = i ∧ H.taps[i].op = true ∧ H.shut k = (H.put i { H.taps[i] with op := false }, true) := by
  unfold HubS.shut at h ⊢
  by_cases hk : 0 ≤ k ∧ k < H.taps.length
  · rw [if_pos hk] at h ⊢
    have hi : k.toNat < H.taps.length := by omega
    rw [List.getElem?_eq_getElem hi] at h ⊢
    dsimp only at h ⊢
    by_cases ho : H.taps[k.toNat].op = true
    · exact ⟨k.toNat, hi, by omega, ho, by rw [if_pos ho]⟩
    · rw [if_neg ho] at h; cases h
  · rw [if_neg hk] at h; cases h
theorem shut_false {H : HubS} {k : Int} (h : (H.shut k).2 = false) : H.shut k = (H, false) := by
  unfold HubS.shut at h ⊢
  by_cases hk : 0 ≤ k ∧ k < H.taps.length
  · rw [if_pos hk] at h ⊢
    have hi : k.toNat < H.taps.length := by omega
    rw [List.getElem?_eq_getElem hi] at h ⊢
    dsimp only at h ⊢
    by_cases ho : H.taps[k.toNat].op = true
    · rw [if_pos ho] at h; cases h
    · rw [if_neg ho]
  · rw [if_neg hk]
theorem RdI.take' {w : World} {a : Option Addr} {n c : Nat} {l : List Int} (h : RdI w (.slice a n c) l) (k : Nat) : RdI w (.slice a (l.take k).length c) (l.take k) := by
  obtain ⟨a', c', e, h1, h2, h3⟩ := h
  injection e with ea en ec
  subst ea; subst ec
  rw [List.length_map] at h1
  refine ⟨a, c, by rw [List.length_map], by rw [List.length_map, List.length_take]; omega, h2, fun j u hu => ?_⟩
  have hj := (List.getElem?_eq_some_iff.1 hu).1
  rw [List.length_map, List.length_take] at hj
  refine h3 j u ?_
  rw [List.getElem?_map, List.getElem?_take_of_lt (by omega)] at hu
  rw [List.getElem?_map]; exact hu
end Go.Proofs.Ytjlmbmamkhneiaa
