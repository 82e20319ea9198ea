/- The document's hub: what stands where; the walk of its New. -/
import Derived.Test.YtjlmbmamkhneiaaHub4
import Derived.Test.YtjlmbmamkhneiaaGrp
namespace Go.Proofs.Ytjlmbmamkhneiaa
open Go Go.RowKit
set_option linter.unusedVariables false
/-- Blocks of these types stay as they are. -/
def Stay (ts : List TypeId) (w w' : World) : Prop := ∀ (g : Nat) (cs : Array Value) (t : TypeId) (fr : Nat × Nat), w.heap[g]? = some (.cells cs t fr) → t ∈ ts → w'.heap[g]? = some (.cells cs t fr)
section
variable {ts : List TypeId} {w w' w'' : World}
theorem Stay.of_chg {S : Nat → Prop} (c : Chg S w w') (h : ∀ (k : Nat) (cs : Array Value) (t : TypeId) (fr : Nat × Nat), w.heap[k]? = some (.cells cs t fr) → t ∈ ts → ¬ S k) : Stay ts w w' := fun g cs t fr hg ht => (c.block g (lt_of_block hg) (h g cs t fr hg ht)).trans hg
theorem Stay.new (c : New w w') : Stay ts w w' := .of_chg c (fun _ _ _ _ _ _ e => e)
theorem Stay.trans (h : Stay ts w w') (k : Stay ts w' w'') : Stay ts w w'' := fun g cs t fr hg ht => k g cs t fr (h g cs t fr hg ht) ht
theorem Stay.sub {us : List TypeId} (h : Stay ts w w') (hs : ∀ t ∈ us, t ∈ ts) : Stay us w w' := fun g cs t fr hg ht => h g cs t fr hg (hs t ht)
theorem Stay.owns (h : Stay ts w w') {base n size : Nat} {e : TypeId} {v : Value} {xs : List Value} (ho : w.ownsRow base e size v n xs) (ht : e ∈ ts) : w'.ownsRow base e size v n xs := by
  refine ⟨ho.1, ?_⟩
  rcases ho.2 with hn | ⟨g, cap, cur, hv, hg, hh, r⟩
  · exact .inl hn
  · exact .inr ⟨g, cap, cur, hv, hg, h g _ _ _ hh ht, r⟩
/-- A row that grew: other types' blocks stay. -/
theorem Stay.grown {base n size : Nat} {e : TypeId} {v : Value} {xs : List Value} (ho : w.ownsRow base e size v n xs) (hg : w.grownBy w' v.ownBlock) (he : e ∉ ts) : Stay ts w w' := fun g cs t fr hh ht => by
  refine (hg.block g (lt_of_block hh) (fun hv => ?_)).trans hh
  obtain ⟨_, _, c, hc⟩ := owns_block ho hv.symm
  rw [hc] at hh; cases hh; exact he ht
theorem rowNew {base n size : Nat} {e : TypeId} {v : Value} {xs : List Value} (h : w.ownsRow base e size v n xs) (c : New w w') : w'.ownsRow base e size v n xs := owns_same h (fun k hk => c.block k (owns_block h hk).2.1 (fun e => e))
theorem Stay.set {g : Nat} {cs : Array Value} {t : TypeId} {fr : Nat × Nat} (hg : w.heap[g]? = some (.cells cs t fr)) (ht : t ∉ ts) (i : Nat) (u : Value) : Stay ts w (w.setCell ⟨g, i, none⟩ u) := fun k cs' t' fr' hk ht' => by
  have : k ≠ g := by rintro rfl; rw [hg] at hk; cases hk; exact ht ht'
  rw [heap_setCell_other _ _ _ _ this]; exact hk
/-- Whole numbers in a block of such. -/
def BufAt (w : World) (u : Value) (zs : List Int) : Prop := RdI w u zs ∧ ∀ g, u.ownBlock = some g → ∃ cs fr, w.heap[g]? = some (.cells cs 3 fr)
theorem BufAt.stay {u : Value} {zs : List Int} (h : BufAt w u zs) (s : Stay ts w w') (ht : 3 ∈ ts) : BufAt w' u zs :=
  ⟨h.1.move fun g hg _ => by obtain ⟨cs, fr, e⟩ := h.2 g hg; rw [s g _ _ _ e ht, e], fun g hg => by obtain ⟨cs, fr, e⟩ := h.2 g hg; exact ⟨cs, fr, s g _ _ _ e ht⟩⟩
theorem BufAt.nil (w : World) : BufAt w (.slice none 0 0) [] := ⟨RdV.nil w, fun g h => by cases h⟩
theorem BufAt.of_owns {base : Nat} {u : Value} {zs : List Int} {n : Nat} (hn : n = (zs.map I).length) (h : w.ownsRow base 3 1 u n (zs.map I)) : BufAt w u zs := by
  subst hn
  exact ⟨RdV.of_owns h, fun g hg => by obtain ⟨_, _, c, hc⟩ := owns_block h hg; exact ⟨c, _, hc⟩⟩
theorem RdG.of_rdV {v : Value} {xs : List Value} (h : RdV w v xs) : RdG w v xs.length xs := h
end
theorem RdG.oneAt (w : World) (us : List Value) (t : TypeId) {g : Nat} (hg : w.heap.size = g) : RdG (w.alloc (.cells us.toArray t)) (.slice (some ⟨g, 0, none⟩) 1 1) 1 us := by subst hg; exact RdG.one w us t
def tapV (p : Value × TapS) : List Value := [p.1, .bool p.2.op, I p.2.missed]
/-- The row of taps of the document's hub. -/
structure RHub (w : World) (v : Value) (vs : List Value) (T : List TapS) : Prop where
  row : w.ownsRow 0 80 3 v T.length ((vs.zip T).map tapV).flatten
  len : vs.length = T.length
  bufs : ∀ (i : Nat) (u : Value) (t : TapS), vs[i]? = some u → T[i]? = some t → BufAt w u t.buf
theorem tap3 {vs : List Value} {T : List TapS} : ∀ x ∈ (vs.zip T).map tapV, x.length = 3 := by
  intro x hx; obtain ⟨p, _, rfl⟩ := List.mem_map.1 hx; rfl
section
variable {w w' : World} {v : Value} {vs : List Value} {T : List TapS}
theorem RHub.stay (h : RHub w v vs T) {ts : List TypeId} (s : Stay ts w w') (h3 : 3 ∈ ts) (h80 : 80 ∈ ts) : RHub w' v vs T := ⟨s.owns h.row h80, h.len, fun i u t h1 h2 => (h.bufs i u t h1 h2).stay s h3⟩
theorem RHub.new (h : RHub w v vs T) (c : New w w') : RHub w' v vs T := h.stay (ts := [3, 80]) (.new c) (by simp) (by simp)
theorem RHub.zl (h : RHub w v vs T) : ((vs.zip T).map tapV).length = T.length := by rw [List.length_map, List.length_zip, h.len]; omega
theorem RHub.fl (h : RHub w v vs T) : ((vs.zip T).map tapV).flatten.length = T.length * 3 := h.row.1
theorem RHub.nil (w : World) : RHub w (.slice none 0 0) [] [] := ⟨World.ownsRow_nil _ _ _ _, rfl, fun i u t h => by simp at h⟩
theorem RHub.at (h : RHub w v vs T) {i : Nat} (hi : i < T.length) : ∃ g cap u, v = .slice (some ⟨g, 0, none⟩) T.length cap ∧ w.cell? ⟨g, i * 3, none⟩ = some u ∧ w.cell? ⟨g, i * 3 + 1, none⟩ = some (.bool T[i].op) ∧ w.cell? ⟨g, i * 3 + 2, none⟩ = some (I T[i].missed) ∧
    BufAt w u T[i].buf ∧ vs[i]? = some u := by
  have hi2 : i < vs.length := by rw [h.len]; exact hi
  have hx : ((vs.zip T).map tapV)[i]? = some (tapV (vs[i], T[i])) := by rw [List.getElem?_map, List.getElem?_eq_getElem (by simp; omega), List.getElem_zip]; rfl
  have hrow := h.row
  rw [← h.zl] at hrow
  obtain ⟨g, cap, hv, hr⟩ := owns_range hrow tap3 hx
  rw [h.zl] at hv
  refine ⟨g, cap, vs[i], hv, ?_, hr 1 _ rfl, hr 2 _ rfl, h.bufs i _ _ (List.getElem?_eq_getElem hi2) (List.getElem?_eq_getElem hi), List.getElem?_eq_getElem hi2⟩
  have := hr 0 _ rfl
  rwa [Nat.add_zero] at this
theorem RHub.snoc (h : RHub w v vs T) {w2 : World} {v2 u : Value} {t : TapS} (hown : w2.ownsRow 0 80 3 v2 (T.length + 1) (((vs.zip T).map tapV).flatten ++ tapV (u, t))) (hs : Stay [3] w w2) (hu : BufAt w2 u t.buf) : RHub w2 v2 (vs ++ [u]) (T ++ [t]) := by
  have hl := h.len
  refine ⟨?_, by simp [hl], fun i x y hx hy => ?_⟩
  · rw [List.zip_append hl, List.map_append, List.flatten_append, List.length_append]
    simpa using hown
  · by_cases hi : i < T.length
    · rw [List.getElem?_append_left (by omega)] at hx
      rw [List.getElem?_append_left hi] at hy
      exact (h.bufs i x y hx hy).stay hs (by simp)
    · rw [List.getElem?_append_right (by omega)] at hx
      rw [List.getElem?_append_right (by omega)] at hy
      have e1 : i - vs.length = 0 := by have := (List.getElem?_eq_some_iff.1 hx).1; simp at this; omega
      rw [e1] at hx
      rw [show i - T.length = 0 by omega] at hy
      simp at hx hy
      rw [← hx, ← hy]; exact hu
theorem RHub.one (h : RHub w v vs T) : ∀ y ∈ ((vs.zip T).map tapV).flatten, y.oneCell' = true := by
  intro y hy
  obtain ⟨q, hq, hy⟩ := List.mem_flatten.1 hy
  obtain ⟨⟨p1, p2⟩, hp, rfl⟩ := List.mem_map.1 hq
  obtain ⟨i, hi, e⟩ := List.mem_iff_getElem.1 hp
  rw [List.getElem_zip] at e
  injection e with e1 e2
  rw [List.length_zip] at hi
  have hb := h.bufs i p1 p2 (by rw [List.getElem?_eq_getElem (by omega), e1]) (by rw [List.getElem?_eq_getElem (by omega), e2])
  obtain ⟨a, c, rfl⟩ := hb.1.shape
  simp [tapV] at hy
  rcases hy with rfl | rfl | rfl <;> rfl
/-- The same row, laid anew. -/
theorem RHub.copy (h : RHub w v vs T) {w2 : World} {v2 : Value} (hown : w2.ownsRow 0 80 3 v2 T.length ((vs.zip T).map tapV).flatten) (hs : Stay [3] w w2) : RHub w2 v2 vs T :=
  ⟨hown, h.len, fun i u t h1 h2 => (h.bufs i u t h1 h2).stay hs (by simp)⟩
theorem zip_set {α β : Type} : ∀ (l : List α) (m : List β) (i : Nat) (a : α) (b : β), (l.set i a).zip (m.set i b) = (l.zip m).set i (a, b)
  | [], _, _, _, _ => by simp
  | _ :: _, [], i, _, _ => by cases i <;> simp
  | x :: l, y :: m, 0, a, b => by simp
  | x :: l, y :: m, i + 1, a, b => by simp [zip_set l m i a b]
/-- One cell of a tap was written. -/
theorem RHub.put {g cap : Nat} (h : RHub w (.slice (some ⟨g, 0, none⟩) T.length cap) vs T) {i j : Nat} (hi : i < T.length) (hj : j < 3) {u u' : Value} {t' : TapS} (x : Value) (hu : vs[i]? = some u) (ht : (tapV (u, T[i])).set j x = tapV (u', t')) (hb : BufAt w u' t'.buf) :
    RHub (w.setCell ⟨g, i * 3 + j, none⟩ x) (.slice (some ⟨g, 0, none⟩) T.length cap) (vs.set i u') (T.set i t') := by
  obtain ⟨hs, hg⟩ := World.ownsRow.stored h.row (i * 3 + j) x
  have hi2 : i < vs.length := by rw [h.len]; exact hi
  have hui : vs[i] = u := by rw [List.getElem?_eq_getElem hi2] at hu; simpa using hu
  have hx : ((vs.zip T).map tapV)[i]? = some (tapV (u, T[i])) := by rw [List.getElem?_map, List.getElem?_eq_getElem (by simp; omega), List.getElem_zip, hui]; rfl
  rw [flat_set _ tap3 i j x _ hx hj, ht] at hs
  have e : ((vs.zip T).map tapV).set i (tapV (u', t')) = ((vs.set i u').zip (T.set i t')).map tapV := by rw [zip_set, List.map_set]
  rw [e] at hs
  have hst : Stay [3] w (w.setCell ⟨g, i * 3 + j, none⟩ x) := by
    intro k cs t fr hh h3
    have hk : k ≠ g := by
      rintro rfl
      obtain ⟨_, _, c, hc⟩ := owns_block h.row (g := k) rfl
      rw [hc] at hh; cases hh; simp at h3
    rw [heap_setCell_other _ _ _ _ hk]; exact hh
  refine ⟨by rw [List.length_set]; exact hs, by simp [h.len], fun k y z hy hz => ?_⟩
  by_cases hk : k = i
  · subst hk
    rw [List.getElem?_set_self hi2] at hy
    rw [List.getElem?_set_self hi] at hz
    cases hy; cases hz
    exact hb.stay hst (by simp)
  · rw [List.getElem?_set_ne (Ne.symm hk)] at hy hz
    exact (h.bufs k y z hy hz).stay hst (by simp)
end
theorem info80 : (Try.prog.info? 80).map (fun i => (i.zero, i.size, i.bytes)) = some (some (.agg #[.slice none 0 0, .bool false, .int .i64 0]), 3, 40) := by kernel_rfl
theorem G24 : GroupTy Try.prog 24 3 1 8 := ⟨Try.underlying24, let ⟨i, h1, h2, h3, h4⟩ := info_parts info3; ⟨i, _, h1, h2, h3, h4, rfl⟩, by decide⟩
theorem G71 : GroupTy Try.prog 71 80 3 40 := ⟨Try.underlying71, let ⟨i, h1, h2, h3, h4⟩ := info_parts info80; ⟨i, _, h1, h2, h3, h4, rfl⟩, by decide⟩
theorem New_r4 (k : Int) (w : World) : Calls Try.prog 49 #[I k] w fun e w' => e = .returned (.agg #[.slice none 0 0, I (roomOf k)]) ∧ New w w' := by
  have hr : ((roomOf k : Nat) : Int) = min (max k 1) 1024 := by unfold roomOf; omega
  rw [hr]
  have c : ∀ o, New w (w.alloc o) := fun o => (Chg.refl _ w).alloc o
  by_cases c1 : k < 1
  · rw [show min (max k 1) 1024 = 1 by omega]
    go_enter Try.func49, Try.ntmps49
    go_wp2_with fail
    exact bodyPost_ret (results_cell_row rfl _ _ w.heap.size 73 #[.slice none 0 0, .int .i64 1] (0, 0) _ rfl (heap_alloc_new w _) Try.underlying73 rfl (by kernel_rfl)) rfl ⟨rfl, c _⟩
  · by_cases c2 : 1024 < k
    · rw [show min (max k 1) 1024 = 1024 by omega]
      go_enter Try.func49, Try.ntmps49
      go_wp2_with fail
      exact bodyPost_ret (results_cell_row rfl _ _ w.heap.size 73 #[.slice none 0 0, .int .i64 1024] (0, 0) _ rfl (heap_alloc_new w _) Try.underlying73 rfl (by kernel_rfl)) rfl ⟨rfl, c _⟩
    · rw [show min (max k 1) 1024 = k by omega]
      go_enter Try.func49, Try.ntmps49
      go_wp2_with fail
      exact bodyPost_ret (results_cell_row rfl _ _ w.heap.size 73 #[.slice none 0 0, .int .i64 k] (0, 0) _ rfl (heap_alloc_new w _) Try.underlying73 rfl (by kernel_rfl)) rfl ⟨rfl, c _⟩
end Go.Proofs.Ytjlmbmamkhneiaa
