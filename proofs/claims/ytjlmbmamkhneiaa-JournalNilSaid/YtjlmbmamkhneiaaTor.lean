/- The walk of the law BlockTorn. -/
import Derived.Test.YtjlmbmamkhneiaaBkn
import Derived.Test.YtjlmbmamkhneiaaArm
import Derived.Test.YtjlmbmamkhneiaaRowb
namespace Go.Proofs.Ytjlmbmamkhneiaa
open Go Go.RowKit
set_option linter.unusedVariables false
def byteAt (b : List UInt8) (i : Nat) : UInt8 := b.getD i 0
theorem pad_at (b : List UInt8) (i : Nat) (hb : b.length ≤ 64) (hi : i < 64) : (pad b)[i]? = some (byteAt b i) := by
  unfold pad byteAt
  by_cases h : i < b.length
  · rw [List.getElem?_append_left h, List.getD_eq_getElem?_getD, List.getElem?_eq_getElem h]; rfl
  · rw [List.getElem?_append_right (by omega), List.getElem?_replicate, if_pos (by omega), List.getD_eq_getElem?_getD, List.getElem?_eq_none (l := b) (by omega)]; rfl
/-- Each byte of a block is one of those that were written. -/
def From (all : List (List UInt8)) (c : List UInt8) : Prop := ∀ i x, c[i]? = some x → ∃ b ∈ all, byteAt b i = x
theorem from_pad {all : List (List UInt8)} {b : List UInt8} (h : b ∈ all) (hl : b.length ≤ 64) : From all (pad b) := fun i x hx => by
  have hi : i < 64 := by have := (List.getElem?_eq_some_iff.1 hx).1; rw [pad_len hl] at this; exact this
  rw [pad_at b i hl hi] at hx
  exact ⟨b, h, by simpa using hx⟩
theorem from_tear {all : List (List UInt8)} {c y : List UInt8} (hc : From all c) (hy : From all y) (hl : y.length = 64) (n : Nat) (hn : n ≤ 64) : From all (y.take n ++ c.drop n) := fun i x hx => by
  have ht : (y.take n).length = n := by simp; omega
  by_cases h : i < n
  · rw [List.getElem?_append_left (by omega), List.getElem?_take, if_pos h] at hx
    exact hy i x hx
  · rw [List.getElem?_append_right (by omega), ht, List.getElem?_drop, show n + (i - n) = i by omega] at hx
    exact hc i x hx
theorem from_tears {all : List (List UInt8)} (keep : List Int) : ∀ (bs : List (List UInt8)) (j : Nat) (c : List UInt8), From all c → (∀ b ∈ bs, b ∈ all ∧ b.length ≤ 64) →
    ∃ c', tear keep j (bs.map fun b => (0, pad b)) [c] = [c'] ∧ From all c'
  | [], j, c, hc, _ => ⟨c, rfl, hc⟩
  | b :: bs, j, c, hc, hb => by
    obtain ⟨h1, h2⟩ := hb b (List.mem_cons_self ..)
    have := from_tears keep bs (j + 1) _ (from_tear hc (from_pad h1 h2) (pad_len h2) (keepN keep j) (keepN_le _ _)) (fun q hq => hb q (List.mem_cons_of_mem _ hq))
    exact this
def cut64 (b : List UInt8) : List UInt8 := b.take 64
theorem cut_len (b : List UInt8) : (cut64 b).length = min b.length 64 := by simp [cut64, Nat.min_comm]
theorem cut_le (b : List UInt8) : (cut64 b).length ≤ 64 := by rw [cut_len]; omega
/-- The device behind the first write, its Sync, and some writes. -/
def tornDev (f : List UInt8) (bs : List (List UInt8)) : DevS := ⟨[pad f], bs.map fun b => (0, pad b), false, 0, []⟩
theorem write_plain (f : List UInt8) (bs : List (List UInt8)) (b : List UInt8) (hb : b.length ≤ 64) : (tornDev f bs).write 0 b = (tornDev f (bs ++ [b]), 0) := by
  unfold DevS.write
  have hr : (tornDev f bs).ready 0 = 0 := rfl
  rw [if_neg (by rw [hr]; simp), if_neg (by omega)]
  simp [tornDev, DevS.act, DevS.push]
theorem first_plain (f : List UInt8) (hf : f.length ≤ 64) : ((DevS.new 1).write 0 f).2 = 0 ∧ ((DevS.new 1).write 0 f).1.sync = (tornDev f [], 0) := by
  have e : (DevS.new 1).write 0 f = (⟨[blank], [(0, pad f)], false, 0, []⟩, 0) := by
    unfold DevS.write
    rw [if_neg (by decide), if_neg (by omega)]
    rfl
  rw [e]
  exact ⟨rfl, rfl⟩
/-- What Read hands back in the end. -/
theorem torn_read (f : List UInt8) (hf : f.length ≤ 64) (bs : List (List UInt8)) (hb : ∀ b ∈ bs, b.length ≤ 64) (keep : List Int) :
    ((tornDev f bs).off keep).on.ready 0 = 0 ∧ From (f :: bs) (((tornDev f bs).off keep).on.block 0) := by
  obtain ⟨c', h1, h2⟩ := from_tears (all := f :: bs) keep bs 0 (pad f) (from_pad (List.mem_cons_self ..) hf) (fun b h => ⟨List.mem_cons_of_mem _ h, hb b h⟩)
  have e : (tornDev f bs).off keep = ⟨[c'], [], true, 0, []⟩ := by
    unfold DevS.off
    rw [if_neg (show ¬ (tornDev f bs).down = true by simp [tornDev])]
    simp only [tornDev] at *
    rw [h1]
  rw [e]
  exact ⟨rfl, h2⟩
theorem rd_cut {w : World} {a : Option Addr} {n c : Nat} {f : List UInt8} (h : Rd w (.slice a n c) f) : Rd w (.slice a (cut64 f).length c) (cut64 f) := by
  have := h.take (min f.length 64) (by omega)
  rw [cut_len]
  have e : f.take (min f.length 64) = cut64 f := by
    unfold cut64
    by_cases h : f.length ≤ 64
    · rw [Nat.min_eq_left h, List.take_of_length_le (Nat.le_refl _), List.take_of_length_le h]
    · rw [Nat.min_eq_right (by omega)]
  rw [e] at this; exact this
theorem rd_lt {w : World} {v : Value} {bs : List UInt8} (h : Rd w v bs) (hne : bs ≠ []) {k : Nat} (hk : v.ownBlock = some k) : k < w.heap.size := by
  obtain ⟨a, c, rfl, _, _, hc⟩ := h
  obtain ⟨b, bs', rfl⟩ := List.exists_cons_of_ne_nil hne
  obtain ⟨g, off, rfl, hh⟩ := hc 0 (B b) rfl
  cases hk
  exact lt_of_cell hh
theorem rdI_lt {w : World} {v : Value} {zs : List Int} (h : RdI w v zs) (hne : zs ≠ []) {k : Nat} (hk : v.ownBlock = some k) : k < w.heap.size := by
  obtain ⟨a, c, rfl, _, _, hc⟩ := h
  obtain ⟨b, bs', rfl⟩ := List.exists_cons_of_ne_nil hne
  obtain ⟨g, off, rfl, hh⟩ := hc 0 (I b) rfl
  cases hk
  exact lt_of_cell hh
theorem rdI_take {w : World} {a : Option Addr} {n c : Nat} {l : List Int} (h : RdI w (.slice a n c) l) (k : Nat) : RdI w (.slice a (l.take k).length c) (l.take k) := by
  obtain ⟨a', c', e, h1, h2, h3⟩ := h
  injection e with e1 e2 e3
  subst e1 e3
  rw [List.length_map] at h1
  refine ⟨a, c, by simp, by simp; omega, h2, fun j u hu => h3 j u ?_⟩
  rw [List.getElem?_map] at hu ⊢
  rw [List.getElem?_take] at hu
  split at hu
  · exact hu
  · cases hu
/-- 'all': a row of the run's own of slices that read as these in w0. -/
def OwnS (base : Nat) (w0 w : World) (v : Value) (bss : List (List UInt8)) : Prop :=
  ∃ vs : List Value, w.ownsRow base 22 1 v vs.length vs ∧ vs.length = bss.length ∧ (∀ u ∈ vs, u.oneCell' = true) ∧ ∀ (i : Nat) (u : Value) (b : List UInt8), vs[i]? = some u → bss[i]? = some b → Rd w0 u b
/-- 'all' behind one more. -/
theorem OwnS.one {base : Nat} {w0 w1 : World} {v1 : Value} {bss : List (List UInt8)} {b : List UInt8} {u : Value} {vs : List Value} (h : vs.length = bss.length ∧ (∀ u ∈ vs, u.oneCell' = true) ∧ ∀ (i : Nat) (u : Value) (b : List UInt8), vs[i]? = some u → bss[i]? = some b → Rd w0 u b)
    (ho : w1.ownsRow base 22 1 v1 (vs ++ [u]).length (vs ++ [u])) (hu : u.oneCell' = true) (hb : Rd w0 u b) : OwnS base w0 w1 v1 (bss ++ [b]) := by
  obtain ⟨h1, h2, h3⟩ := h
  refine ⟨vs ++ [u], ho, by simp [h1], fun x hx => ?_, fun i x y hx hy => ?_⟩
  · rcases List.mem_append.1 hx with hx | hx
    · exact h2 x hx
    · rw [List.mem_singleton.1 hx]; exact hu
  · by_cases hi : i < vs.length
    · rw [List.getElem?_append_left hi] at hx
      rw [List.getElem?_append_left (by omega)] at hy
      exact h3 i x y hx hy
    · rw [List.getElem?_append_right (by omega)] at hx
      rw [List.getElem?_append_right (by omega)] at hy
      have e1 : i - vs.length = 0 := by have := (List.getElem?_eq_some_iff.1 hx).1; simp at this; omega
      have e2 : i - bss.length = 0 := by omega
      rw [e1] at hx
      rw [e2] at hy
      simp at hx hy
      rw [← hx, ← hy]; exact hb
theorem T23 : SliceTy Try.prog 23 22 (.slice none 0 0) 24 := ⟨Try.underlying23, info_parts (by kernel_rfl)⟩
theorem rd_one (w : World) (u : Value) (t : TypeId) : RdV (w.alloc (.cells #[u] t)) (.slice (some ⟨w.heap.size, 0, none⟩) 1 1) [u] :=
  ⟨_, 1, rfl, Nat.le_refl _, by simp [maxLen], fun j x hx => ⟨w.heap.size, 0, rfl, by rw [cell_of_row _ _ _ _ _ _ (heap_alloc_new w _), Nat.zero_add]; simpa using hx⟩⟩
theorem grown_mut {S : Nat → Prop} {ts : List TypeId} {w w1 w2 : World} {base n : Nat} {e : TypeId} {size : Nat} {v : Value} {xs : List Value} (h : Chg (Mut S ts w) w w1) (ho : w1.ownsRow base e size v n xs) (hg : w1.grownBy w2 v.ownBlock) (hb : w.heap.size ≤ base) : Chg (Mut S ts w) w w2 :=
  h.grown hg (fun k hk hlt => by have := (owns_block ho hk).1; omega)
theorem DevAt.new {S : Nat → Prop} {w w' : World} {d : Nat} {D : DevS} (h : DevAt S w d D) (c : New w w') : DevAt S w' d D := let ⟨g, a, b, h⟩ := h; ⟨g, a, b, h.new c⟩
theorem DevAt.chg {S T : Nat → Prop} {ts : List TypeId} {w w' : World} {d : Nat} {D : DevS} (h : DevAt S w d D) (c : Chg (Mut T ts w) w w') (ht : ∀ t ∈ [87, 90, 92, 3], t ∉ ts) : DevAt S w' d D := let ⟨g, a, b, h⟩ := h; ⟨g, a, b, h.chg c ht⟩
/-- An append to a row of another type leaves the device. -/
theorem DevAt.grown {S : Nat → Prop} {w w' : World} {d : Nat} {D : DevS} (h : DevAt S w d D) {base n : Nat} {e : TypeId} {size : Nat} {v : Value} {xs : List Value} (ho : w.ownsRow base e size v n xs) (hg : w.grownBy w' v.ownBlock) (he : e ∉ [87, 90, 92, 3]) : DevAt S w' d D := by
  refine h.chg (T := fun _ => True) (ts := [e]) ((Chg.refl _ w).grown hg (fun k hk _ => ?_)) (fun t ht e' => he (by rw [List.mem_singleton] at e'; rw [← e']; exact ht))
  obtain ⟨_, _, c, hc⟩ := owns_block ho hk
  exact .of trivial hc (by simp)
theorem OwnS.cons {base : Nat} {w0 w : World} {v u : Value} {b : List UInt8} (ho : w.ownsRow base 22 1 v [u].length [u]) (hu : u.oneCell' = true) (hb : Rd w0 u b) : OwnS base w0 w v [b] :=
  ⟨[u], ho, rfl, fun x hx => by rw [List.mem_singleton.1 hx]; exact hu, fun i x y hx hy => by
    match i, hx, hy with
    | 0, hx, hy => simp at hx hy; rw [← hx, ← hy]; exact hb
    | i + 1, hx, _ => simp at hx⟩
theorem OwnS.chg {S : Nat → Prop} {ts : List TypeId} {base : Nat} {w0 w w1 : World} {v : Value} {bss : List (List UInt8)} (h : OwnS base w0 w v bss) (hc : Chg (Mut S ts w) w w1) (ht : 22 ∉ ts) : OwnS base w0 w1 v bss := by
  obtain ⟨vs, h1, h2, h3, h4⟩ := h
  exact ⟨vs, hc.owns h1 ht, h2, h3, h4⟩
theorem OwnS.new {base : Nat} {w0 w w1 : World} {v : Value} {bss : List (List UInt8)} (h : OwnS base w0 w v bss) (hc : New w w1) : OwnS base w0 w1 v bss := by
  obtain ⟨vs, h1, h2, h3, h4⟩ := h
  exact ⟨vs, owns_same h1 (fun k hk => hc.block k (owns_block h1 hk).2.1 (fun e => e)), h2, h3, h4⟩
theorem from_any {all : List (List UInt8)} {c : List UInt8} (h : From all c) {i : Nat} (hi : i < c.length) : all.any (fun b => byteAt b i == c[i]) = true := by
  obtain ⟨b, hb, e⟩ := h i c[i] (List.getElem?_eq_getElem hi)
  rw [List.any_eq_true]
  exact ⟨b, hb, by rw [e]; simp⟩
theorem anyTo_step (bss : List (List UInt8)) (i : Nat) (c : UInt8) {j : Nat} (hj : j < bss.length) : (bss.take (j + 1)).any (fun b => byteAt b i == c) = ((bss.take j).any (fun b => byteAt b i == c) || (byteAt bss[j] i == c)) := by
  rw [take_snoc hj, List.any_append]; simp
end Go.Proofs.Ytjlmbmamkhneiaa
