/- The walks of layer 9's example, and of the law BlockNil's calls at a device that is not there. -/
import Derived.Test.YtjlmbmamkhneiaaSyn
import Derived.Laws.BytesString
import Derived.Lib.SlBytesConst
namespace Go.Proofs.Ytjlmbmamkhneiaa
open Go Go.RowKit
set_option linter.unusedVariables false
theorem bytes_str {w : World} {v : Value} {l : List UInt8} (h : Rd w v l) : (convert 22 9 v).run Try.prog w = .ok (.string ⟨l.toArray⟩) w := by
  obtain ⟨a, c, rfl, h1, h2, h3⟩ := h
  rw [List.length_map]
  cases l with
  | nil =>
    cases a with
    | none =>
      show (convert 22 9 (.slice none 0 c)).run Try.prog w = _
      rw [run_convert_bytes_string (P := Try.prog) w 22 9 5 none 0 c Try.underlying22 Try.underlying5 Try.underlying9]
      simp [Conv.bytesToString, Sem.run_pure]
      rfl
    | some a => exact run_convert_bytes_back (P := Try.prog) w 22 9 5 a c [] Try.underlying22 Try.underlying5 Try.underlying9 (fun j hj => absurd hj (Nat.not_lt_zero _))
  | cons x xs =>
    obtain ⟨g, off, rfl, _⟩ := h3 0 (B x) rfl
    refine run_convert_bytes_back (P := Try.prog) w 22 9 5 ⟨g, off, none⟩ c (x :: xs) Try.underlying22 Try.underlying5 Try.underlying9 (fun j hj => ?_)
    obtain ⟨g', off', e, hc⟩ := h3 j (B (x :: xs)[j]) (by rw [List.getElem?_map, List.getElem?_eq_getElem hj]; rfl)
    injection e with e
    injection e with e1 e2
    subst e1 e2
    rw [Addr.add_lit]; exact hc
theorem rdB_new (w : World) (bs : List UInt8) (n : Nat) (hn : bs.length = n) (hm : n ≤ 1048576) (fr : Nat × Nat) : Rd (w.alloc (.cells (bs.map B).toArray 5 fr)) (.slice (some ⟨w.heap.size, 0, none⟩) n n) bs :=
  ⟨_, n, by simp [hn], by simp [hn], by unfold maxLen; omega, fun j u hu => ⟨w.heap.size, 0, rfl, by rw [cell_of_row _ _ _ _ _ _ (heap_alloc_new w _), Nat.zero_add]; simpa using hu⟩⟩
theorem rdI_new1 (w : World) (z : Int) : RdI (w.alloc (.cells #[.int .i64 z] 3)) (.slice (some ⟨w.heap.size, 0, none⟩) 1 1) [z] :=
  ⟨_, 1, rfl, Nat.le_refl _, by simp [maxLen], fun j u hu => ⟨w.heap.size, 0, rfl, by rw [cell_of_row _ _ _ _ _ _ (heap_alloc_new w _), Nat.zero_add]; simpa using hu⟩⟩
theorem new_not {S : Nat → Prop} {w : World} {c : Array Value} {t : TypeId} {fr : Nat × Nat} {n m k : Nat} (ht : t ∉ pts) : (Value.slice (some ⟨w.heap.size, 0, none⟩) n m).ownBlock = some k → ¬ Mut S pts (w.alloc (.cells c t fr)) k := by
  intro e; cases e; exact not_mut (heap_alloc_new w _) ht
theorem chg_new {w w' : World} {ts : List TypeId} (h : Chg (Mut (fun k => w.heap.size ≤ k) ts w) w w') : New w w' := h.mono fun k hk e => absurd e.1 (by omega)
theorem DevAt.alloc {S : Nat → Prop} {w : World} {d : Nat} {D : DevS} (h : DevAt S w d D) (o : Obj) : DevAt S (w.alloc o) d D := let ⟨g, a, b, h⟩ := h; ⟨g, a, b, h.alloc o⟩
theorem Rd.take {w : World} {a : Option Addr} {n c : Nat} {l : List UInt8} (h : Rd w (.slice a n c) l) (k : Nat) (hk : k ≤ l.length) : Rd w (.slice a k c) (l.take k) := by
  obtain ⟨a', c', e, h1, h2, h3⟩ := h
  injection e with e1 e2 e3
  subst e1 e3
  rw [List.length_map] at h1
  refine ⟨a, c, by simp [Nat.min_eq_left hk], by simp; omega, h2, fun j u hu => h3 j u ?_⟩
  rw [List.getElem?_map] at hu ⊢
  rw [List.getElem?_take] at hu
  split at hu
  · exact hu
  · cases hu
set_option maxRecDepth 100000 in
set_option maxHeartbeats 4000000 in
theorem awakeB_t (w : World) : Calls Try.prog 21 #[] w fun e w' => e = .returned (.bool true) ∧ New w w' := by
  obtain ⟨S, hS⟩ : ∃ S : Nat → Prop, S = fun k => w.heap.size ≤ k := ⟨_, rfl⟩
  have HS := hid hS
  clear hS
  have HSn : Hid (∀ w1 : World, w.heap.size ≤ w1.heap.size → ∀ k, w1.heap.size ≤ k → S k) := fun w1 h1 k hk => by rw [HS.out]; exact Nat.le_trans h1 hk
  have kc := fun (w : World) (C : Array Value) (n c : Nat) => Lib.run_convert_bytes_const (P := Try.prog) w 22 5 C n c Try.underlying22 Try.underlying5
  go_enter Try.func21, Try.ntmps21
  go_wp2_with fail
  refine (New_dev 2 w S (HSn.out w (Nat.le_refl _))).mono ?_
  rintro e w1 ⟨rfl, hd, hn⟩
  have D1 := hid hd
  have C1 : Hid (Chg (Mut S pts w) w w1) := hn.mono (fun _ _ e => e.elim)
  clear hd hn
  generalize w.heap.size + 1 = d at *
  go_wp2_with fail
  refine (Write_t (D1.out.alloc _) (HSn.out _ (Nat.le_trans C1.out.size (by simp))) 0 _ [97, 98] (rdB_new w1 [97, 98] 2 rfl (by omega) (2, 3)) (fun _ k => new_not (by decide)) (by decide)).mono ?_
  rintro e w2 ⟨he, hd, hc⟩
  obtain rfl : e = .returned (I 0) := he
  have D2 : Hid (DevAt S w2 d ⟨[blank, blank], [(0, pad [97, 98])], false, 0, []⟩) := hd
  have C2 := hid ((C1.out.alloc _).tr hc)
  clear hd hc
  go_wp2_with fail
  refine (Sync_t D2.out).mono ?_
  rintro e w3 ⟨he, hd, hc⟩
  obtain rfl : e = .returned (I 0) := he
  have D3 : Hid (DevAt S w3 d ⟨[pad [97, 98], blank], [], false, 0, []⟩) := hd
  have C3 := hid (C2.out.tr hc)
  clear hd hc
  go_wp2_with fail
  refine (Write_t (D3.out.alloc _) (HSn.out _ (Nat.le_trans C3.out.size (by simp))) 0 _ [99, 100] (rdB_new w3 [99, 100] 2 rfl (by omega) (2, 3)) (fun _ k => new_not (by decide)) (by decide)).mono ?_
  rintro e w4 ⟨he, hd, hc⟩
  obtain rfl : e = .returned (I 0) := he
  have D4 : Hid (DevAt S w4 d ⟨[pad [97, 98], blank], [(0, pad [99, 100])], false, 0, []⟩) := hd
  have C4 := hid ((C3.out.alloc _).tr hc)
  clear hd hc
  go_wp2_with fail
  refine (Off_t (D4.out.alloc _) _ [1] (rdI_new1 w4 1) (fun _ k => new_not (by decide))).mono ?_
  rintro e w5 ⟨rfl, hd, hc⟩
  have D5 : Hid (DevAt S w5 d ⟨[99 :: (pad [97, 98]).drop 1, blank], [], true, 0, []⟩) := hd
  have C5 := hid ((C4.out.alloc _).tr hc)
  clear hd hc
  go_wp2_with fail
  refine (Read_t D5.out 0).mono ?_
  rintro e w6 ⟨hg, hd, hn⟩
  rcases hg with ⟨h0, _⟩ | ⟨_, he⟩
  · exact absurd h0 (by decide)
  obtain rfl : e = .returned (.tuple #[.slice none 0 0, I 9]) := he
  have D6 := hid hd
  have C6 := hid (C5.out.tr (hn.mono fun _ _ e => e.elim))
  clear hd hn
  go_wp2_with fail
  refine (On_t D6.out).mono ?_
  rintro e w7 ⟨rfl, hd, hc⟩
  have D7 : Hid (DevAt S w7 d ⟨[99 :: (pad [97, 98]).drop 1, blank], [], false, 0, []⟩) := hd
  have C7 := hid (C6.out.tr hc)
  clear hd hc
  go_wp2_with fail
  refine (Read_t D7.out 0).mono ?_
  rintro e w8 ⟨hg, hd, hn⟩
  rcases hg with ⟨_, r, rfl, ho⟩ | ⟨h0, he⟩
  case inr => exact absurd (by decide) h0
  obtain ⟨ra, rc, rfl, hrc, hrm⟩ := owns_shape ho
  have C8 := hid (C7.out.tr (hn.mono fun _ _ e => e.elim))
  have hrd : Rd w8 (.slice ra 64 rc) (99 :: (pad [97, 98]).drop 1) := RdV.of_owns ho
  have hcv := bytes_str (hrd.take 3 (by decide))
  have e3 : List.take 3 (99 :: (pad [97, 98]).drop 1) = [99, 98, 0] := by decide
  rw [e3] at hcv
  have hrc' : (64 : Int) ≤ rc := by omega
  clear hd hn ho hrd e3 hrm
  go_wp2_with fail
  all_goals go_ret
  all_goals exact ⟨rfl, chg_new (by rw [HS.out] at C8; exact C8.out)⟩
end Go.Proofs.Ytjlmbmamkhneiaa
