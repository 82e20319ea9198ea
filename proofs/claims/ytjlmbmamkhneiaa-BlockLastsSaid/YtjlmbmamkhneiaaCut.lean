/- The walk of Cut. -/
import Derived.Test.YtjlmbmamkhneiaaSam
namespace Go.Proofs.Ytjlmbmamkhneiaa
open Go Go.RowKit
set_option linter.unusedVariables false
theorem Rd.take' {w : World} {a : Option Addr} {n c : Nat} {l : List UInt8} (h : Rd w (.slice a n c) l) {k : Nat} : Rd w (.slice a (min k l.length) c) (l.take k) := by
  have e := h.take (min k l.length) (by omega)
  by_cases hk : k ≤ l.length
  · rwa [Nat.min_eq_left hk] at e ⊢
  · rw [Nat.min_eq_right (by omega), List.take_length] at e
    rw [Nat.min_eq_right (by omega), List.take_of_length_le (by omega)]; exact e
set_option maxRecDepth 100000 in
set_option maxHeartbeats 4000000 in
theorem cutAct_t (w : World) (z0 z1 z2 : Int) (vb vk : Value) (b : List UInt8) (ks : List Int) (hb : Rd w vb b) (hk : RdI w vk ks) :
    Calls Try.prog 55 #[.agg #[I z0, I z1, I z2, vb, vk]] w fun e w' => ∃ vb' vk', e = .returned (.agg #[I z0, I z1, I z2, vb', vk']) ∧ vb'.ownBlock = vb.ownBlock ∧ vk'.ownBlock = vk.ownBlock ∧ Rd w vb' (b.take 70) ∧ RdI w vk' (ks.take 12) ∧ New w w' := by
  obtain ⟨ba, bc, rfl⟩ := hb.shape
  obtain ⟨ka, kc, rfl⟩ := hk.shape
  rw [List.length_map] at hb hk ⊢
  rw [List.length_map]
  have HB := hid hb
  have HK := hid hk
  have hbm : b.length ≤ bc ∧ bc ≤ maxLen := by
    obtain ⟨_, _, e, q1, q2, _⟩ := hb
    injection e with _ _ e3
    rw [List.length_map] at q1; omega
  have hkm : ks.length ≤ kc ∧ kc ≤ maxLen := by
    obtain ⟨_, _, e, q1, q2, _⟩ := hk
    injection e with _ _ e3
    rw [List.length_map] at q1; omega
  unfold maxLen at hbm hkm
  obtain ⟨hb1, hb2⟩ := hbm
  obtain ⟨hk1, hk2⟩ := hkm
  clear hb hk
  have c : ∀ o o1, New w ((w.alloc o).alloc o1) := fun o o1 => ((Chg.refl _ w).alloc o).alloc o1
  have EB := hid (show b.length ≤ 70 → b.take 70 = b from fun h => List.take_of_length_le h)
  have EK := hid (show ks.length ≤ 12 → ks.take 12 = ks from fun h => List.take_of_length_le h)
  have TB := hid (show Rd w (.slice ba (b.take 70).length bc) (b.take 70) by rw [List.length_take]; exact Rd.take' HB.out)
  have TK := hid (rdI_take HK.out 12)
  have LB : (b.take 70).length = min 70 b.length := List.length_take
  have LK : (ks.take 12).length = min 12 ks.length := List.length_take
  clear EB EK
  by_cases h1 : (70 : Int) < b.length
  · by_cases h2 : (12 : Int) < ks.length
    · go_enter Try.func55, Try.ntmps55
      go_wp2_with fail
      have e1 : (b.take 70).length = 70 := by omega
      have e2 : (ks.take 12).length = 12 := by omega
      have tb := TB.out
      have tk := TK.out
      rw [e1] at tb
      rw [e2] at tk
      refine bodyPost_ret (results_cell_row rfl _ _ (w.heap.size + 1) 39 #[I z0, I z1, I z2, .slice ba 70 bc, .slice ka 12 kc] (0, 0) _ rfl (heap_alloc2_new w _ _) Try.underlying39 rfl (by kernel_rfl)) rfl ⟨_, _, rfl, by cases ba <;> rfl, by cases ka <;> rfl, tb, tk, c _ _⟩
    · go_enter Try.func55, Try.ntmps55
      go_wp2_with fail
      have e1 : (b.take 70).length = 70 := by omega
      have e2 : (ks.take 12).length = ks.length := by omega
      have tb := TB.out
      have tk := TK.out
      rw [e1] at tb
      rw [e2] at tk
      refine bodyPost_ret (results_cell_row rfl _ _ (w.heap.size + 1) 39 #[I z0, I z1, I z2, .slice ba 70 bc, .slice ka ks.length kc] (0, 0) _ rfl (heap_alloc2_new w _ _) Try.underlying39 rfl (by kernel_rfl)) rfl ⟨_, _, rfl, by cases ba <;> rfl, by cases ka <;> rfl, tb, tk, c _ _⟩
  · by_cases h2 : (12 : Int) < ks.length
    · go_enter Try.func55, Try.ntmps55
      go_wp2_with fail
      have e1 : (b.take 70).length = b.length := by omega
      have e2 : (ks.take 12).length = 12 := by omega
      have tb := TB.out
      have tk := TK.out
      rw [e1] at tb
      rw [e2] at tk
      refine bodyPost_ret (results_cell_row rfl _ _ (w.heap.size + 1) 39 #[I z0, I z1, I z2, .slice ba b.length bc, .slice ka 12 kc] (0, 0) _ rfl (heap_alloc2_new w _ _) Try.underlying39 rfl (by kernel_rfl)) rfl ⟨_, _, rfl, by cases ba <;> rfl, by cases ka <;> rfl, tb, tk, c _ _⟩
    · go_enter Try.func55, Try.ntmps55
      go_wp2_with fail
      have e1 : (b.take 70).length = b.length := by omega
      have e2 : (ks.take 12).length = ks.length := by omega
      have tb := TB.out
      have tk := TK.out
      rw [e1] at tb
      rw [e2] at tk
      refine bodyPost_ret (results_cell_row rfl _ _ (w.heap.size + 1) 39 #[I z0, I z1, I z2, .slice ba b.length bc, .slice ka ks.length kc] (0, 0) _ rfl (heap_alloc2_new w _ _) Try.underlying39 rfl (by kernel_rfl)) rfl ⟨_, _, rfl, by cases ba <;> rfl, by cases ka <;> rfl, tb, tk, c _ _⟩
end Go.Proofs.Ytjlmbmamkhneiaa
