/- The walk of a device's Read. -/
import Derived.Test.YtjlmbmamkhneiaaWri2
namespace Go.Proofs.Ytjlmbmamkhneiaa
open Go Go.RowKit
set_option linter.unusedVariables false
attribute [local go_sem ↓] load90_fold load92_fold store90_fold store92_fold alloc90_fold alloc92_fold build92_fold bslice85_fold
def pick (i : Nat) (c : List UInt8) (p : Nat × List UInt8) : List UInt8 := if p.1 = i then p.2 else c
def DevS.block (D : DevS) (i : Nat) : List UInt8 := D.pend.foldl (pick i) (D.lasts.getD i [])
def DevS.blockTo (D : DevS) (i m : Nat) : List UInt8 := (D.pend.take m).foldl (pick i) (D.lasts.getD i [])
theorem blockTo_step (D : DevS) (i : Nat) {m : Nat} (hm : m < D.pend.length) : D.blockTo i (m + 1) = pick i (D.blockTo i m) D.pend[m] := by
  simp only [DevS.blockTo]; rw [take_snoc hm, List.foldl_append]; rfl
theorem blockTo_all (D : DevS) (i : Nat) : D.blockTo i D.pend.length = D.block i := by simp [DevS.blockTo, DevS.block]
theorem foldl_pick_len {D : DevS} (h : DevOk D) (i : Nat) : ∀ (l : List (Nat × List UInt8)) (c : List UInt8), (∀ p ∈ l, p.2.length = 64) → c.length = 64 → (l.foldl (pick i) c).length = 64
  | [], c, _, hc => hc
  | p :: l, c, hl, hc => by
    refine foldl_pick_len h i l _ (fun q hq => hl q (List.mem_cons_of_mem _ hq)) ?_
    unfold pick; split
    · exact hl p (List.mem_cons_self ..)
    · exact hc
theorem getD_len {D : DevS} (h : DevOk D) {i : Nat} (hi : i < D.lasts.length) : (D.lasts.getD i []).length = 64 := by
  rw [List.getD_eq_getElem?_getD, List.getElem?_eq_getElem hi, Option.getD_some, h.cell _ (List.getElem_mem hi)]
theorem blockTo_len {D : DevS} (h : DevOk D) {i : Nat} (hi : i < D.lasts.length) (m : Nat) : (D.blockTo i m).length = 64 :=
  foldl_pick_len h i _ _ (fun p hp => (h.pend p (List.mem_of_mem_take hp)).2) (getD_len h hi)
theorem block_len {D : DevS} (h : DevOk D) {i : Nat} (hi : i < D.lasts.length) : (D.block i).length = 64 := by rw [← blockTo_all]; exact blockTo_len h hi _
theorem rdV_blk {w : World} {g : Nat} {xs : List Value} {t : TypeId} {fr : Nat × Nat} (h : w.heap[g]? = some (.cells xs.toArray t fr)) (hn : xs.length = 64) : RdV w (.slice (some ⟨g, 0, none⟩) 64 64) xs :=
  ⟨_, 64, by rw [hn], Nat.le_of_eq hn, by simp [maxLen], fun j u hu => ⟨g, 0, rfl, by rw [cell_of_row w g _ _ t fr h, Nat.zero_add]; simpa using hu⟩⟩
theorem owns_base {w : World} {b b' : Nat} {e : TypeId} {size n : Nat} {v : Value} {xs : List Value} (h : w.ownsRow b e size v n xs) (hb : b' ≤ b) : w.ownsRow b' e size v n xs := by
  refine ⟨h.1, ?_⟩
  rcases h.2 with hn | ⟨g, cap, cur, hv, hg, r⟩
  · exact .inl hn
  · exact .inr ⟨g, cap, cur, hv, Nat.le_trans hb hg, r⟩
theorem pick_row {S : Nat → Prop} {w wr : World} {d g j m : Nat} {vP vK : Value} {D : DevS} {A : Array Value} {p : Nat × List UInt8} (h : DevIs S wr d g vP vK D) (hc : New w wr) (hb : wr.heap[w.heap.size]? = some (.cells (cellV (D.blockTo j m)).toArray 90 (0, 0)))
    (hst : D.blockTo j (m + 1) = pick j (D.blockTo j m) p) (hp : p.1 = j) (hd : d < w.heap.size) (hg : g < w.heap.size) (hP : ∀ k, vP.ownBlock = some k → k < w.heap.size) (hK : ∀ k, vK.ownBlock = some k → k < w.heap.size) :
    DevIs S ((wr.alloc (.cells A 92)).setRow w.heap.size (cellV p.2).toArray) d g vP vK D ∧ New w ((wr.alloc (.cells A 92)).setRow w.heap.size (cellV p.2).toArray) ∧
      ((wr.alloc (.cells A 92)).setRow w.heap.size (cellV p.2).toArray).heap[w.heap.size]? = some (.cells (cellV (D.blockTo j (m + 1))).toArray 90 (0, 0)) := by
  have old : ∀ k, k < w.heap.size → ((wr.alloc (.cells A 92)).setRow w.heap.size (cellV p.2).toArray).heap[k]? = wr.heap[k]? := fun k hk => by
    rw [setRow_other _ _ _ _ (by omega)]; exact Below.heap_alloc wr _ k (Nat.lt_of_lt_of_le hk hc.size)
  refine ⟨h.move (old d hd) (old g hg) (fun k hk => old k (hP k hk)) (fun k hk => old k (hK k hk)), (hc.alloc _).setRow (fun e => by omega) _, ?_⟩
  rw [hst, pick, if_pos hp]
  exact setRow_heap _ _ _ _ 90 _ ((Below.heap_alloc wr _ _ (lt_of_block hb)).trans hb)
/-- What Read hands back. -/
def Got (D : DevS) (i : Int) (w w' : World) (e : Ending) : Prop :=
  (D.ready i = 0 ∧ ∃ r, e = .returned (.tuple #[r, I 0]) ∧ w'.ownsRow w.heap.size 5 1 r 64 ((D.block i.toNat).map B)) ∨ (D.ready i ≠ 0 ∧ e = .returned (.tuple #[.slice none 0 0, I (D.ready i)]))
set_option maxRecDepth 100000 in
set_option maxHeartbeats 4000000 in
theorem Read_t {S : Nat → Prop} {w : World} {d : Nat} {D : DevS} (h : DevAt S w d D) (i : Int) :
    Calls Try.prog 20 #[.pointer (some ⟨d, 0, none⟩), I i] w fun e w' => Got D i w w' e ∧ DevAt S w' d D ∧ New w w' := by
  obtain ⟨g, vP, vK, h⟩ := h
  have H := hid h
  have R := ready_t h i
  rcases ready_is D i with hr | hr | ⟨hr, hi0, hi1, hdn⟩
  · have HR := hid hr
    rw [hr] at R
    clear hr h
    go_enter Try.func20, Try.ntmps20
    go_wp2_with fail
    refine R.mono ?_
    rintro e w' ⟨rfl, rfl⟩
    go_wp2_with fail
    go_ret2
    exact ⟨.inr ⟨by rw [HR.out]; decide, by rw [HR.out]; rfl⟩, ⟨_, _, _, H.out⟩, Chg.refl _ _⟩
  · have HR := hid hr
    rw [hr] at R
    clear hr h
    go_enter Try.func20, Try.ntmps20
    go_wp2_with fail
    refine R.mono ?_
    rintro e w' ⟨rfl, rfl⟩
    go_wp2_with fail
    go_ret2
    exact ⟨.inr ⟨by rw [HR.out]; decide, by rw [HR.out]; rfl⟩, ⟨_, _, _, H.out⟩, Chg.refl _ _⟩
  · have HR := hid hr
    rw [hr] at R
    obtain ⟨j, rfl⟩ : ∃ j : Nat, i = j := ⟨i.toNat, by omega⟩
    have hj : j < D.lasts.length := by omega
    have hmost := h.ok.most
    have hfew := h.ok.few
    obtain ⟨pa, pc, rfl, hp1, hp2⟩ := owns_shape h.pend
    have hpl : (D.pend.map writeV).length = D.pend.length := List.length_map _
    rw [hpl] at H
    have h' := H.out
    obtain ⟨c0, c1, c2, c3, c4, cf⟩ := cells5 h'.dev
    have HJ := hid hj
    have LD := hid (lt_of_block h'.dev)
    have LG := hid (lt_of_block h'.lasts)
    have HOWN := hid h'.pend
    have hc1 : ∀ o, (w.alloc o).cell? ⟨d, 1, none⟩ = some (.slice pa D.pend.length pc) := fun o => (World.cell?_alloc_lt _ _ _ LD.out).trans c1
    have HL0 := hid (getD_len h'.ok hj)
    have hl0 : (load90 (.pointer (some ⟨g, j * 64, none⟩))).run Try.prog w = .ok (.agg (cellV (D.lasts.getD j [])).toArray) w :=
      run_load90 (range_of_flat h'.lasts (cellV_len h'.ok) (by rw [List.getElem?_map, List.getD_eq_getElem?_getD, List.getElem?_eq_getElem hj]; rfl)) HL0.out
    have q1 := run_alloc90
    have q2 := fun w => run_store90_new w (D.lasts.getD j []) HL0.out
    have HPL := hid hpl
    have HZ := hid (show D.blockTo j 0 = D.lasts.getD j [] from rfl)
    generalize D.lasts.getD j [] = c0' at *
    clear h h' hp1 hp2 hpl hr hdn cf c2 c3 c4 hi0 hi1
    go_enter Try.func20, Try.ntmps20
    go_wp2_with fail
    refine R.mono ?_
    rintro e w' ⟨rfl, rfl⟩
    go_wp2_with fail
    go_loopw [28] (fun n wr => ∃ m : Nat, n = .int .i64 m ∧ m ≤ D.pend.length ∧ DevIs S wr d g (.slice pa D.pend.length pc) vK D ∧ New w wr ∧ wr.heap[w.heap.size]? = some (.cells (cellV (D.blockTo j m)).toArray 90 (0, 0))) (fun n _ => D.pend.length - (intOf n).toNat)
    case atStart => exact ⟨0, rfl, by omega, H.out.alloc _, (Chg.refl _ w).alloc _, by rw [HZ.out]; exact heap_alloc_new _ _⟩
    case round =>
      obtain ⟨m, rfl, hm, hi, hc, hb⟩ := hrel
      have A1 := hid hi
      have C1 := hid hc
      have B1 := hid hb
      clear hi hc hb c0 c1 hl0 q1 q2 hc1
      by_cases hlt : m < D.pend.length
      · obtain ⟨gp, cap, hv, hrg⟩ := owns_range A1.out.pend (writeV_len A1.out.ok) (i := m) (x := writeV D.pend[m]) (by rw [List.getElem?_map, List.getElem?_eq_getElem hlt]; rfl)
        rw [HPL.out] at hv
        injection hv with e1 e2 e3
        subst e1 e3
        clear e2
        have HP := hid (H.out.ok.pend _ (List.getElem_mem hlt))
        have HST := hid (blockTo_step D j hlt)
        generalize D.pend[m] = p at *
        have hl92 := run_load92 hrg HP.out.2
        have q1 := run_alloc92
        have q2 := fun w => run_store92_new w p HP.out.2
        have hA0 : (writeV p).toArray[0]? = some (I p.1) := rfl
        have LK := hid (lt_of_block B1.out)
        have hl90 : (load90 (.pointer (some ⟨wr.heap.size, 1, none⟩))).run Try.prog (wr.alloc (.cells (writeV p).toArray 92)) = .ok (.agg (cellV p.2).toArray) (wr.alloc (.cells (writeV p).toArray 92)) :=
          run_load90 (WrAt.range (p := p) ⟨heap_alloc_new _ _⟩) HP.out.2
        have q3 := run_store90_row (w := wr.alloc (.cells (writeV p).toArray 92)) ((Below.heap_alloc wr _ _ LK.out).trans B1.out) (blockTo_len H.out.ok HJ.out m) p.2 HP.out.2
        clear hrg
        by_cases heq : p.1 = j
        · have HE := hid heq
          rw [heq] at hA0
          clear heq
          generalize (writeV p).toArray = A at *
          go_wp2_with fail
          go_roundw
          case rel => exact ⟨m + 1, by go_num, by omega, pick_row A1.out C1.out B1.out HST.out HE.out LD.out LG.out (fun k hk => (owns_block HOWN.out hk).2.1) (fun k hk => (owns_block H.out.keep hk).2.1)⟩
          case measure => simp [intOf]; omega
        · have HE := hid heq
          have hne : ¬ ((p.1 : Int) = (j : Int)) := by omega
          generalize (writeV p).toArray = A at *
          go_wp2_with fail
          go_roundw
          case rel => exact ⟨m + 1, by go_num, by omega, A1.out.alloc _, C1.out.alloc _, by rw [HST.out, pick, if_neg HE.out]; exact (Below.heap_alloc wr _ _ LK.out).trans B1.out⟩
          case measure => simp [intOf]; omega
      · obtain rfl : m = D.pend.length := by omega
        rw [blockTo_all] at B1
        have hrd := rdV_blk B1.out (by simp [cellV, block_len H.out.ok HJ.out]) 
        have HSZ := hid C1.out.size
        go_wp2_with fail
        refine (cloneB_t wr _ (cellV (D.block j)) hrd (cellO _) (by simp [cellV, block_len H.out.ok HJ.out])).mono ?_
        rintro e w' ⟨r, rfl, ho, hn⟩
        have HO := hid ho
        have HN := hid hn
        clear ho hn hrd
        go_wp2_with fail
        go_ret2
        refine ⟨.inl ⟨HR.out, r, rfl, ?_⟩, ⟨_, _, _, A1.out.new HN.out⟩, C1.out.trans HN.out (fun _ _ e => e)⟩
        have h := HO.out
        rw [show (cellV (D.block j)).length = 64 by simp [cellV, block_len H.out.ok HJ.out]] at h
        exact owns_base h HSZ.out
end Go.Proofs.Ytjlmbmamkhneiaa
