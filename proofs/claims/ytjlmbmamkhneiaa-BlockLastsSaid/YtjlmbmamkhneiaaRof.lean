/- The walk of the Off of the document's device: what a round does. -/
import Derived.Test.YtjlmbmamkhneiaaRef
import Derived.Laws.OwnMore
namespace Go.Proofs.Ytjlmbmamkhneiaa
open Go Go.RowKit
set_option linter.unusedVariables false
theorem step_append_rd {P : Program} {ops : Array Oper} {o : Oper} {a : Act} {w : World} {K : Act → World → Prop} {Q : Exit → Act → World → Prop} {E : Prop} (hgd : o.guard = none) (s x : Operand) (t : TypeId)
    (ho : o.op = .call { callee := .builtin .append, args := #[s, x], argTypes := #[t, t] }) {e : TypeId} {z : Value} {by_ : Nat} (T : SliceTy P t e z by_) (hz : z.cells.size = 1) (base : Nat) (v : Value) (l : List Value) (hs : a.eval s = v)
    (hown : w.ownsRow base e 1 v l.length l) (xv : Value) (hxv : a.eval x = xv) (xs : List Value) (hr : RdV w xv xs) (h1 : ∀ u ∈ xs, u.oneCell' = true) (hlen : (l.length + xs.length) * by_ ≤ 140737488355328) (hlm : l.length + xs.length ≤ maxLen) (hbase : base ≤ w.heap.size)
    (h : ∀ v' w', w'.ownsRow base e 1 v' (l ++ xs).length (l ++ xs) → w.grownBy w' v.ownBlock → K (a.put o.dst v') w') :
    if Region.wanted o (yielded ops a.tmps) = true then Oper.wp P o a w K Q else E := by
  have hw : Region.wanted o (yielded ops a.tmps) = true := by simp [Region.wanted, hgd]
  rw [if_pos hw]
  obtain ⟨v', w', hrun, h1, h2⟩ := run_append_rdV (P := P) (ty := o.type) T hz hown hr h1 hlen hlm hbase
  unfold Oper.wp
  simp only [execOp, ho, resolve, invoke, builtin, hs, hxv, hrun, Result.andThen, Sem.run_bind, Sem.run_pure, List.map_toArray, List.map_cons, List.map_nil]
  exact h v' w' h1 h2
def rawN (keep : List Int) (j : Nat) : Int := keep.getD (j % keep.length) 0
theorem keepN_raw (keep : List Int) (j : Nat) : keepN keep j = (min (max (rawN keep j) 0) 64).toNat := rfl
theorem rawN_nil (j : Nat) : rawN [] j = 0 := rfl
theorem mix_step {p o : List UInt8} {q : Nat} (hp : q < p.length) (ho : q < o.length) : (p.take q ++ o.drop q).set q p[q] = p.take (q + 1) ++ o.drop (q + 1) := by
  have h1 : (p.take q).length = q := by simp; omega
  rw [List.set_append_right _ _ (by omega), h1, Nat.sub_self, List.drop_eq_getElem_cons ho, List.set_cons_zero, List.take_succ_eq_append_getElem hp, List.append_assoc]
  rfl
section
variable {S : Nat → Prop} {w w' : World} {d : Nat} {vL vP vK : Value} {ls ps : List Value} {D : DevS}
/-- Another row of bytes in the place of one that lasts. -/
theorem RefIs.setLast (h : RefIs S w d vL vP vK ls ps D) {gl n cap : Nat} (hv : vL = .slice (some ⟨gl, 0, none⟩) n cap) {i : Nat} (hi : i < D.lasts.length) {u : Value} {b : List UInt8} (hu : OwnB w u b) (hb : b.length = 64) :
    RefIs S (w.setCell ⟨gl, i, none⟩ u) d vL vP vK (ls.set i u) ps { D with lasts := D.lasts.set i b } ∧ Chg (Mut S rts w) w (w.setCell ⟨gl, i, none⟩ u) := by
  subst hv
  have hlen := h.lb.1
  obtain ⟨a1, c1, e1, _, _⟩ := owns_shape h.lasts
  injection e1 with _ en _
  have hl := h.lasts
  rw [← en] at hl
  obtain ⟨hs, hg⟩ := World.ownsRow.stored hl i u
  obtain ⟨_, _, cc, hcc⟩ := owns_block h.lasts (show (Value.slice (some ⟨gl, 0, none⟩) n cap).ownBlock = some gl from rfl)
  have c : Chg (Mut (fun k => k = gl) [22] w) w (w.setCell ⟨gl, i, none⟩ u) := Chg.setCell (p := ⟨gl, i, none⟩) (Chg.refl _ w) (fun _ => .of rfl hcc (by simp)) u
  refine ⟨⟨c.stays h.dev (by simp), ?_, ?_, c.owns h.pend (by simp), h.pb.chg c (by simp), c.owns h.keep (by simp), h.sd, h.sl, h.sp, ?_⟩, c.mut (fun k _ e => by subst e; exact h.sl _ rfl) (by simp)⟩ 
  · rw [List.length_set, ← en]; exact hs
  · exact (h.lb.chg c (by simp)).set i (hu.chg c (by simp))
  · refine ⟨fun x hx => ?_, fun p hp => by have := h.ok.pend p hp; simpa using this, by simpa using h.ok.most, h.ok.fuse, h.ok.few⟩
    rcases List.mem_or_eq_of_mem_set hx with e | e
    · exact h.ok.cell x e
    · rw [e]; exact hb
theorem off_rend (h : RefIs S w d vL vP vK ls ps D) :
    RefAt S (((w.setCell ⟨d, 1, none⟩ (.slice none 0 0)).setCell ⟨d, 2, none⟩ (.bool true)).setCell ⟨d, 3, none⟩ (.int .i64 0)) d { D with pend := [], down := true, fuse := 0 } ∧
      Chg (Mut S rts w) w (((w.setCell ⟨d, 1, none⟩ (.slice none 0 0)).setCell ⟨d, 2, none⟩ (.bool true)).setCell ⟨d, 3, none⟩ (.int .i64 0)) := by
  have e1 := heap_setCell_same w d 1 _ 45 (.slice none 0 0) h.dev
  have e2 := heap_setCell_same _ d 2 _ 45 (.bool true) e1
  have e3 := heap_setCell_same _ d 3 _ 45 (.int .i64 0) e2
  have c : Chg (fun k => k = d) w (((w.setCell ⟨d, 1, none⟩ (.slice none 0 0)).setCell ⟨d, 2, none⟩ (.bool true)).setCell ⟨d, 3, none⟩ (.int .i64 0)) :=
    Chg.setCell (S := fun k => k = d) (p := ⟨d, 3, none⟩) (chg_two w d 1 2 _ _) (fun _ => rfl) _
  refine ⟨⟨vL, .slice none 0 0, vK, ls, [], h.fields _ _ [] { D with pend := [], down := true, fuse := 0 } rfl c e3 (World.ownsRow_nil _ _ _ _) ⟨rfl, fun i v b h1 => by simp at h1⟩ h.keep (fun k hk => (by cases hk)) ⟨h.ok.cell, fun p hp => (by cases hp), h.ok.most, Nat.zero_le _, Nat.zero_le _⟩⟩, h.set (h.set (h.set (Chg.refl _ w) 1 _) 2 _) 3 _⟩
/-- The m-th write that is pending, as it lies in the row. -/
theorem RefIs.pendAt (h : RefIs S w d vL vP vK ls ps D) {m : Nat} (hm : m < D.pend.length) (hm2 : m < ps.length) :
    ∃ gp cap, vP = .slice (some ⟨gp, 0, none⟩) D.pend.length cap ∧ w.cell? ⟨gp, m * 2, none⟩ = some (I D.pend[m].1) ∧ w.cell? ⟨gp, m * 2 + 1, none⟩ = some ps[m] ∧ OwnB w ps[m] D.pend[m].2 := by
  have hx : ((D.pend.zip ps).map pairV)[m]? = some (pairV (D.pend[m], ps[m])) := by
    rw [List.getElem?_map, List.getElem?_eq_getElem (by simp; omega), List.getElem_zip]; rfl
  obtain ⟨gp, cap, hv, hr⟩ := owns_range h.pend pair_len hx
  rw [h.zl] at hv
  refine ⟨gp, cap, hv, ?_, hr 1 _ rfl, h.pb.2 m _ _ (List.getElem?_eq_getElem hm2) (by rw [List.getElem?_map, List.getElem?_eq_getElem hm]; rfl)⟩
  have := hr 0 _ rfl
  rw [Nat.add_zero] at this
  exact this
theorem RefIs.lastAt (h : RefIs S w d vL vP vK ls ps D) {i : Nat} (hi : i < D.lasts.length) :
    ∃ gl cap o, vL = .slice (some ⟨gl, 0, none⟩) D.lasts.length cap ∧ ls[i]? = some o ∧ w.cell? ⟨gl, i, none⟩ = some o ∧ OwnB w o D.lasts[i] := by
  have hl := h.lb.1
  have hi2 : i < ls.length := by omega
  obtain ⟨gl, cap, hv, _, _⟩ := World.ownsRow.form h.lasts (by omega)
  have h2 := h.lasts
  rw [hv] at h2
  refine ⟨gl, cap, ls[i], by rw [hv, hl], List.getElem?_eq_getElem hi2, ?_, h.lb.2 i _ _ (List.getElem?_eq_getElem hi2) (List.getElem?_eq_getElem hi)⟩
  rw [World.ownsRow.cellAt h2 i (by omega), List.getElem?_eq_getElem hi2]
end
end Go.Proofs.Ytjlmbmamkhneiaa
