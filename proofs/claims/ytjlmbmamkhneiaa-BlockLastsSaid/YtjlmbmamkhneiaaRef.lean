/- The document's device: what stands where; the walks of On, act's parts, Arm. -/
import Derived.Test.YtjlmbmamkhneiaaTor
namespace Go.Proofs.Ytjlmbmamkhneiaa
open Go Go.RowKit
set_option linter.unusedVariables false
abbrev rts : List TypeId := [45, 22, 98]
/-- Bytes that the document's device holds: a row of their own. -/
def OwnB (w : World) (v : Value) (b : List UInt8) : Prop := w.ownsRow 0 5 1 v b.length (b.map B)
theorem OwnB.rd {w : World} {v : Value} {b : List UInt8} (h : OwnB w v b) : Rd w v b := RdV.of_owns (by rw [List.length_map]; exact h)
theorem OwnB.chg {S : Nat → Prop} {ts : List TypeId} {w w1 : World} {v : Value} {b : List UInt8} (h : OwnB w v b) (hc : Chg (Mut S ts w) w w1) (ht : 5 ∉ ts) : OwnB w1 v b := Chg.owns hc h ht
theorem OwnB.new {w w1 : World} {v : Value} {b : List UInt8} (h : OwnB w v b) (hc : New w w1) : OwnB w1 v b := owns_same h (fun k hk => hc.block k (owns_block h hk).2.1 (fun e => e))
theorem OwnB.one {w : World} {v : Value} {b : List UInt8} (h : OwnB w v b) : v.oneCell' = true := by obtain ⟨a, c, rfl, _, _⟩ := owns_shape h; rfl
/-- A list of values that hold these bytes. -/
def OwnBs (w : World) (vs : List Value) (bss : List (List UInt8)) : Prop := vs.length = bss.length ∧ ∀ (i : Nat) (v : Value) (b : List UInt8), vs[i]? = some v → bss[i]? = some b → OwnB w v b
theorem OwnBs.chg {S : Nat → Prop} {ts : List TypeId} {w w1 : World} {vs : List Value} {bss : List (List UInt8)} (h : OwnBs w vs bss) (hc : Chg (Mut S ts w) w w1) (ht : 5 ∉ ts) : OwnBs w1 vs bss := ⟨h.1, fun i v b h1 h2 => (h.2 i v b h1 h2).chg hc ht⟩
theorem OwnBs.new {w w1 : World} {vs : List Value} {bss : List (List UInt8)} (h : OwnBs w vs bss) (hc : New w w1) : OwnBs w1 vs bss := ⟨h.1, fun i v b h1 h2 => (h.2 i v b h1 h2).new hc⟩
theorem OwnBs.snoc {w : World} {vs : List Value} {bss : List (List UInt8)} {u : Value} {b : List UInt8} (h : OwnBs w vs bss) (hu : OwnB w u b) : OwnBs w (vs ++ [u]) (bss ++ [b]) := by
  refine ⟨by simp [h.1], fun i x y hx hy => ?_⟩
  by_cases hi : i < vs.length
  · rw [List.getElem?_append_left hi] at hx
    rw [List.getElem?_append_left (by rw [← h.1]; exact hi)] at hy
    exact h.2 i x y hx hy
  · rw [List.getElem?_append_right (by omega)] at hx
    rw [List.getElem?_append_right (by rw [← h.1]; omega)] at hy
    have e1 : i - vs.length = 0 := by have := (List.getElem?_eq_some_iff.1 hx).1; simp at this; omega
    have e2 : i - bss.length = 0 := by rw [← h.1]; exact e1
    rw [e1] at hx
    rw [e2] at hy
    simp at hx hy
    rw [← hx, ← hy]; exact hu
theorem OwnBs.set {w : World} {vs : List Value} {bss : List (List UInt8)} {u : Value} {b : List UInt8} (h : OwnBs w vs bss) (i : Nat) (hu : OwnB w u b) : OwnBs w (vs.set i u) (bss.set i b) := by
  refine ⟨by simp [h.1], fun j x y hx hy => ?_⟩
  by_cases hj : j = i
  · subst hj
    have hl := (List.getElem?_eq_some_iff.1 hx).1
    rw [List.length_set] at hl
    rw [List.getElem?_set_self hl] at hx
    rw [List.getElem?_set_self (by rw [← h.1]; exact hl)] at hy
    cases hx; cases hy; exact hu
  · rw [List.getElem?_set_ne (Ne.symm hj)] at hx hy
    exact h.2 j x y hx hy
def pairV (p : (Nat × List UInt8) × Value) : List Value := [I p.1.1, p.2]
/-- The document's device stands at block d. -/
structure RefIs (S : Nat → Prop) (w : World) (d : Nat) (vL vP vK : Value) (ls ps : List Value) (D : DevS) : Prop where
  dev : w.heap[d]? = some (.cells #[vL, vP, .bool D.down, I D.fuse, vK] 45 (0, 0))
  lasts : w.ownsRow 0 22 1 vL ls.length ls
  lb : OwnBs w ls D.lasts
  pend : w.ownsRow 0 98 2 vP ((D.pend.zip ps).map pairV).length ((D.pend.zip ps).map pairV).flatten
  pb : OwnBs w ps (D.pend.map (·.2))
  keep : w.ownsRow 0 3 1 vK (D.keep.map I).length (D.keep.map I)
  sd : S d
  sl : ∀ k, vL.ownBlock = some k → S k
  sp : ∀ k, vP.ownBlock = some k → S k
  ok : DevOk D
def RefAt (S : Nat → Prop) (w : World) (d : Nat) (D : DevS) : Prop := ∃ vL vP vK ls ps, RefIs S w d vL vP vK ls ps D
section
variable {S : Nat → Prop} {w w' : World} {d : Nat} {vL vP vK : Value} {ls ps : List Value} {D : DevS}
theorem RefIs.pl (h : RefIs S w d vL vP vK ls ps D) : ps.length = D.pend.length := by have := h.pb.1; rw [List.length_map] at this; exact this
theorem RefIs.zl (h : RefIs S w d vL vP vK ls ps D) : ((D.pend.zip ps).map pairV).length = D.pend.length := by rw [List.length_map, List.length_zip, h.pl]; omega
theorem pair_len : ∀ x ∈ (D.pend.zip ps).map pairV, x.length = 2 := by intro x hx; obtain ⟨p, _, rfl⟩ := List.mem_map.1 hx; rfl
theorem RefIs.chg {T : Nat → Prop} {ts : List TypeId} (h : RefIs S w d vL vP vK ls ps D) (c : Chg (Mut T ts w) w w') (ht : ∀ t ∈ [45, 22, 98, 3, 5], t ∉ ts) : RefIs S w' d vL vP vK ls ps D :=
  ⟨c.stays h.dev (ht _ (by simp)), c.owns h.lasts (ht _ (by simp)), h.lb.chg c (ht _ (by simp)), c.owns h.pend (ht _ (by simp)), h.pb.chg c (ht _ (by simp)), c.owns h.keep (ht _ (by simp)), h.sd, h.sl, h.sp, h.ok⟩
theorem owns_new {base : Nat} {e : TypeId} {size n : Nat} {v : Value} {xs : List Value} (h : w.ownsRow base e size v n xs) (c : New w w') : w'.ownsRow base e size v n xs := owns_same h (fun k hk => c.block k (owns_block h hk).2.1 (fun e => e))
theorem RefIs.new (h : RefIs S w d vL vP vK ls ps D) (c : New w w') : RefIs S w' d vL vP vK ls ps D :=
  ⟨(c.block _ (lt_of_block h.dev) (fun e => e)).trans h.dev, owns_new h.lasts c, h.lb.new c, owns_new h.pend c, h.pb.new c, owns_new h.keep c, h.sd, h.sl, h.sp, h.ok⟩
theorem RefIs.alloc (h : RefIs S w d vL vP vK ls ps D) (o : Obj) : RefIs S (w.alloc o) d vL vP vK ls ps D := h.new ((Chg.refl _ w).alloc o)
theorem RefIs.same (h : RefIs S w d vL vP vK ls ps D) (e : w'.heap = w.heap) (e1 : w'.os = w.os) (e2 : w'.tape = w.tape) (e3 : w'.output = w.output) : RefIs S w' d vL vP vK ls ps D :=
  h.new ⟨e1, e2, e3, by rw [e]; exact Nat.le_refl _, fun k _ _ => by rw [e]⟩
/-- The device's own block was written anew. -/
theorem RefIs.fields (h : RefIs S w d vL vP vK ls ps D) (vP' vK' : Value) (ps' : List Value) (D' : DevS) (hl : D'.lasts = D.lasts)
    (c : Chg (fun k => k = d) w w') (hd : w'.heap[d]? = some (.cells #[vL, vP', .bool D'.down, I D'.fuse, vK'] 45 (0, 0)))
    (hp : w.ownsRow 0 98 2 vP' ((D'.pend.zip ps').map pairV).length ((D'.pend.zip ps').map pairV).flatten) (hpb : OwnBs w ps' (D'.pend.map (·.2))) (hk : w.ownsRow 0 3 1 vK' (D'.keep.map I).length (D'.keep.map I)) (sp : ∀ k, vP'.ownBlock = some k → S k) (ok : DevOk D') : RefIs S w' d vL vP' vK' ls ps' D' := by
  have cm : Chg (Mut (fun k => k = d) [45] w) w w' := c.mono fun k hk e => by subst e; exact .of rfl h.dev (by simp)
  exact ⟨hd, cm.owns h.lasts (by simp), by rw [hl]; exact h.lb.chg cm (by simp), cm.owns hp (by simp), hpb.chg cm (by simp), cm.owns hk (by simp), h.sd, h.sl, sp, ok⟩
theorem RefIs.set (h : RefIs S w d vL vP vK ls ps D) {w1 : World} (hc : Chg (Mut S rts w) w w1) (i : Nat) (u : Value) : Chg (Mut S rts w) w (w1.setCell ⟨d, i, none⟩ u) :=
  hc.setCell (fun _ => .of h.sd h.dev (by simp)) u
theorem RefIs.keepRd (h : RefIs S w d vL vP vK ls ps D) : RdI w vK D.keep := RdV.of_owns h.keep
theorem RefIs.keepNot (h : RefIs S w d vL vP vK ls ps D) : ∀ k, vK.ownBlock = some k → ¬ Mut S rts w k := by
  intro k hk
  obtain ⟨_, _, c, hc⟩ := owns_block h.keep hk
  exact not_mut hc (by simp)
end
theorem chg_two (w : World) (d i j : Nat) (u v : Value) : Chg (fun k => k = d) w ((w.setCell ⟨d, i, none⟩ u).setCell ⟨d, j, none⟩ v) :=
  Chg.setCell (S := fun k => k = d) (p := ⟨d, j, none⟩) (Chg.setCell (S := fun k => k = d) (p := ⟨d, i, none⟩) (Chg.refl _ w) (fun _ => rfl) u) (fun _ => rfl) v
theorem chg_one (w : World) (d i : Nat) (u : Value) : Chg (fun k => k = d) w (w.setCell ⟨d, i, none⟩ u) :=
  Chg.setCell (S := fun k => k = d) (p := ⟨d, i, none⟩) (Chg.refl _ w) (fun _ => rfl) u
theorem On_r {S : Nat → Prop} {w : World} {d : Nat} {D : DevS} (h : RefAt S w d D) : Calls Try.prog 24 #[.pointer (some ⟨d, 0, none⟩)] w fun e w' => e = .returned (.tuple #[]) ∧ RefAt S w' d D.on ∧ Chg (Mut S rts w) w w' := by
  obtain ⟨vL, vP, vK, ls, ps, h⟩ := h
  have H := hid h
  obtain ⟨c0, c1, c2, c3, c4, cf⟩ := cells5 h.dev
  clear h c0 c1 c4
  go_enter Try.func24, Try.ntmps24
  go_wp2
  go_end0
  have e1 := heap_setCell_same w d 2 _ 45 (.bool false) H.out.dev
  have e2 := heap_setCell_same _ d 3 _ 45 (.int .i64 0) e1
  refine ⟨rfl, ⟨vL, vP, vK, ls, ps, H.out.fields vP vK ps D.on rfl (chg_two w d _ _ _ _) e2 H.out.pend H.out.pb H.out.keep H.out.sp ⟨H.out.ok.cell, H.out.ok.pend, H.out.ok.most, Nat.zero_le _, H.out.ok.few⟩⟩, H.out.set (H.out.set (Chg.refl _ w) 2 _) 3 _⟩
end Go.Proofs.Ytjlmbmamkhneiaa
