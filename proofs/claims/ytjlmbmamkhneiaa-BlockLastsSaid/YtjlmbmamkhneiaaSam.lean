/- Both devices alike: the walk of Same. -/
import Derived.Test.YtjlmbmamkhneiaaRnw
import Derived.Test.YtjlmbmamkhneiaaAwb
import Derived.Deep.DeepCutAuto
import Derived.Outline
namespace Go.Proofs.Ytjlmbmamkhneiaa
open Go Go.RowKit
set_option linter.unusedVariables false
section
variable {S : Nat → Prop} {w : World} {d : Nat} {D : DevS}
theorem DevAt.drewN (h : DevAt S w d D) (n : Nat) : DevAt S (w.drewN n) d D := by
  obtain ⟨g, vP, vK, h⟩ := h
  exact ⟨g, vP, vK, h.same rfl⟩
theorem RefAt.new {w' : World} (h : RefAt S w d D) (c : New w w') : RefAt S w' d D := by
  obtain ⟨a, b, c', l, p, h⟩ := h
  exact ⟨a, b, c', l, p, h.new c⟩
theorem Down_q (h : DevAt S w d D) (n : Nat) (b : Bool) (hb : D.down = b) : Calls Try.prog 28 #[.pointer (some ⟨d, 0, none⟩)] (w.drewN n) fun e w'' => e = .returned (.bool b) ∧ ∃ m, w'' = w.drewN m :=
  (Down_t (h.drewN n)).mono fun e w'' hh => ⟨by rw [← hb]; exact hh.1, n, hh.2.symm⟩
theorem Len_q (h : DevAt S w d D) (n : Nat) : Calls Try.prog 30 #[.pointer (some ⟨d, 0, none⟩)] (w.drewN n) fun e w'' => e = .returned (I D.lasts.length) ∧ ∃ m, w'' = w.drewN m :=
  (Len_d (h.drewN n)).mono fun e w'' hh => ⟨hh.1, n, hh.2.symm⟩
theorem Pending_q (h : DevAt S w d D) (n : Nat) : Calls Try.prog 31 #[.pointer (some ⟨d, 0, none⟩)] (w.drewN n) fun e w'' => e = .returned (I D.pend.length) ∧ ∃ m, w'' = w.drewN m :=
  (Pending_t (h.drewN n)).mono fun e w'' hh => ⟨hh.1, n, hh.2.symm⟩
end
/-- Cells from q on that hold bytes. -/
def Tail (C : List Value) (q : Nat) : Prop := 64 ≤ C.length ∧ ∀ j, q ≤ j → j < 64 → ∃ y : UInt8, C[j]? = some (B y)
theorem Tail.set {C : List Value} {q : Nat} (h : Tail C q) (u : Value) : Tail (C.set q u) (q + 1) :=
  ⟨by rw [List.length_set]; exact h.1, fun j h1 h2 => by rw [List.getElem?_set_ne (by omega)]; exact h.2 j (by omega) h2⟩
theorem own_tail {w : World} {base : Nat} {v : Value} {b : List UInt8} (h : w.ownsRow base 5 1 v 64 (b.map B)) (hb : b.length = 64) :
    ∃ g cap, ∃ C : List Value, v = .slice (some ⟨g, 0, none⟩) 64 cap ∧ 64 ≤ cap ∧ cap ≤ maxLen ∧ base ≤ g ∧ w.heap[g]? = some (.cells C.toArray 5 (0, 0)) ∧ Tail C 0 := by
  obtain ⟨_, ⟨_, h0⟩ | ⟨g, cap, cur, hv, hg, hc, h1, h2, h3, h4⟩⟩ := h
  · omega
  · refine ⟨g, cap, cur.toList, hv, h1, h2, hg, by rw [hc], by simp; omega, fun j _ hj => ⟨b[j]'(by omega), ?_⟩⟩
    have e : (cur.toList.take 64)[j]? = (b.map B)[j]? := by rw [← h4]
    rw [List.getElem?_take_of_lt hj] at e
    rw [e, List.getElem?_map, List.getElem?_eq_getElem (by omega)]; rfl
theorem heap_set5 (w : World) (g m : Nat) (X : List Value) (u : Value) (h : w.heap[g]? = some (.cells X.toArray 5 (0, 0))) : (w.setCell ⟨g, m, none⟩ u).heap[g]? = some (.cells (X.set m u).toArray 5 (0, 0)) := by
  rw [heap_setCell_same w g m _ 5 u h]; simp
set_option maxRecDepth 100000 in
set_option maxHeartbeats 16000000 in
theorem Same_b {S T : Nat → Prop} {w : World} {d r : Nat} {D : DevS} (hd : DevAt S w d D) (hr : RefAt T w r D) :
    Calls Try.prog 29 #[.pointer (some ⟨d, 0, none⟩), .pointer (some ⟨r, 0, none⟩)] w fun e w' => e = .returned (.bool true) ∧ New w w' := by
  have HD := hid hd
  obtain ⟨vL, vP, vK, ls, ps, h⟩ := hr
  obtain ⟨c0, c1, c2, c3, c4, cf⟩ := cells5 h.dev
  obtain ⟨la, lc, rfl, hl1, hl2⟩ := owns_shape h.lasts
  obtain ⟨pa, pc, rfl, hp1, hp2⟩ := owns_shape h.pend
  have hll := h.lb.1
  have hzl := h.zl
  rw [hll] at c0 h
  rw [hzl] at c1 h
  have hmost := h.ok.most
  have hfew := h.ok.few
  have HOK := hid h.ok
  have HR := hid h
  obtain ⟨b, hb⟩ : ∃ b, D.down = b := ⟨_, rfl⟩
  rw [hb] at c2
  clear hd h c3 c4 cf hl1 hl2 hp1 hp2 hll hzl
  have hbb : (b != b) = false := bne_self_eq_false b
  go_enter Try.func29, Try.ntmps29
  go_wp2_with fail
  go_quiet ((first | (go_at_call 28; exact Down_q HD.out _ b hb) | (go_at_call 30; exact Len_q HD.out _) | (go_at_call 31; exact Pending_q HD.out _)))
  clear hbb c0 c1 c2 hb
  go_wp2_with fail
  go_loopw [5] (fun i wr => ∃ z : Int, i = .int .i64 z ∧ -1 ≤ z ∧ z ≤ D.lasts.length + 1 ∧ DevAt S wr d D ∧ RefIs T wr r (.slice la D.lasts.length lc) (.slice pa D.pend.length pc) vK ls ps D ∧ New w wr) (fun i _ => (D.lasts.length + 2 - intOf i).toNat)
  case atStart =>
    have c : ∀ n, New w (w.drewN n) := fun n => ⟨rfl, rfl, rfl, Nat.le_refl _, fun _ _ _ => rfl⟩
    exact ⟨-1, rfl, by omega, by omega, HD.out.new (c _), HR.out.new (c _), c _⟩
  case round =>
    obtain ⟨W0, rfl⟩ : ∃ W0 : World, W0 = wr := ⟨_, rfl⟩
    obtain ⟨z, rfl, hz0, hz1, hd, hr, hc⟩ := hrel
    obtain ⟨c0, _, _, _, _, _⟩ := cells5 hr.dev
    have D1 := hid hd
    have R1 := hid hr
    have C1 := hid hc
    clear hd hr hc
    by_cases hlt : z ≤ D.lasts.length
    · go_wp2_with fail
      refine (Read_t D1.out z).mono ?_
      rintro e w2 ⟨hg, hd, hn⟩
      have D2 := hid hd
      have R2 := hid (show RefAt T w2 r D from ⟨_, _, _, _, _, R1.out.new hn⟩)
      have R2' := hid (R1.out.new hn)
      have C2 := hid hn
      clear hd hn c0
      rcases hg with ⟨h0, r1, rfl, ho⟩ | ⟨h0, rfl⟩
      · have O1 := hid ho
        clear ho
        have H0 := hid h0
        go_wp2_with fail
        refine (Read_r R2.out z).mono ?_
        rintro e w3 ⟨hg, hd, hn⟩
        rcases hg with ⟨h0', r2, rfl, ho⟩ | ⟨h0', rfl⟩
        case inr => exact absurd h0 h0'
        have D3 := hid (D2.out.new hn)
        have R3 := hid (R2'.out.new hn)
        have C3 := hid (C2.out.trans hn (fun _ _ e => e))
        have hbl : (D.block z.toNat).length = 64 := by
          apply block_len HOK.out
          unfold DevS.ready at h0
          split at h0
          · cases h0
          · split at h0
            · rename_i hh; omega
            · cases h0
        have o1 : w3.ownsRow W0.heap.size 5 1 r1 64 ((D.block z.toNat).map B) := owns_new O1.out hn
        have hcv1 := bytes_str (w := w3) (v := r1) (l := D.block z.toNat) (RdV.of_owns (by rw [List.length_map, hbl]; exact o1))
        have hcv2 := bytes_str (w := w3) (v := r2) (l := D.block z.toNat) (RdV.of_owns (by rw [List.length_map, hbl]; exact ho))
        obtain ⟨g, cap, C, rfl, hg1, hg2, hg3, hg4, hg5⟩ := own_tail o1 hbl
        have G3 := hid (And.intro hg3 (And.intro hg4 hg5))
        generalize ByteArray.mk (D.block z.toNat).toArray = str at *
        unfold maxLen at hg2
        clear hd hn ho o1 hbl hg3 hg4 hg5 h0 h0'
        go_wp2_with fail
        go_loopw [71] (fun q wx => ∃ (m : Nat) (X : List Value), q = .int .i64 m ∧ m ≤ 64 ∧ wx.heap[g]? = some (.cells X.toArray 5 (0, 0)) ∧ Tail X m ∧ New W0 wx) (fun q _ => 64 - (intOf q).toNat)
        case atStart => exact ⟨0, C, rfl, by omega, G3.out.2.1, G3.out.2.2, C3.out⟩
        case round =>
          obtain ⟨m, X, rfl, hm, hx, ht, hn⟩ := hrel
          have NX := hid hn
          have GX := hid hx
          have TX := hid ht
          by_cases hq : m < 64
          · obtain ⟨y, hy⟩ := ht.2 m (Nat.le_refl _) hq
            have k0 : wr.cell? ⟨g, m, none⟩ = some (B y) := by rw [cell_of_row wr g m _ 5 _ hx]; simpa using hy
            have kf := frozen_of_row wr g m _ 5 hx
            have hy2 := y.toNat_lt
            clear hx ht hn hy hcv1 hcv2
            go_wp2_with fail
            go_roundw
            case rel =>
              exact ⟨m + 1, X.set m _, by go_num, by omega, heap_set5 wr g m X _ GX.out, TX.out.set _, NX.out.setCell (fun h => absurd h (by have := G3.out.1; show ¬ g < _; omega)) _⟩
            case measure => simp [intOf]; omega
          · obtain rfl : m = 64 := by omega
            clear hx ht hcv1 hcv2
            go_wp2_with fail
            go_roundw
            case rel => exact ⟨z + 1, by first | rfl | go_num, by omega, by omega, D1.out.new hn, R1.out.new hn, C1.out.trans hn (fun _ _ e => e)⟩
            case measure => simp [intOf]; omega
      · have H0 := hid h0
        go_wp2_with fail
        refine (Read_r R2.out z).mono ?_
        rintro e w3 ⟨hg, hd, hn⟩
        rcases hg with ⟨h0', r2, rfl, ho⟩ | ⟨h0', rfl⟩
        case inl => exact absurd h0' h0
        have C3 := hid (C2.out.trans hn (fun _ _ e => e))
        have hcv1 := bytes_str (w := w3) (v := .slice none 0 0) (l := []) (RdV.nil w3)
        generalize ByteArray.mk ([] : List UInt8).toArray = str at *
        generalize D.ready z = rz at *
        clear hd hn h0 h0'
        go_wp2_with fail
        go_loopw [71] (fun q wx => q = .int .i64 0 ∧ wx = w3) (fun q _ => 0)
        case atStart => exact ⟨rfl, rfl⟩
        case round =>
          obtain ⟨rfl, rfl⟩ := hrel
          go_wp2_with fail
          go_roundw
          case rel => exact ⟨z + 1, by first | rfl | go_num, by omega, by omega, D1.out.new C3.out, R1.out.new C3.out, C1.out.trans C3.out (fun _ _ e => e)⟩
          case measure => simp [intOf]; omega
    · go_wp2_with fail
      go_ret
      exact ⟨rfl, C1.out⟩
end Go.Proofs.Ytjlmbmamkhneiaa
