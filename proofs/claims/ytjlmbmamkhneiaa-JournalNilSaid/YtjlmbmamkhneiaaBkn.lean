/- The walk of the law BlockNil. -/
import Derived.Test.YtjlmbmamkhneiaaAwb
namespace Go.Proofs.Ytjlmbmamkhneiaa
open Go Go.RowKit
set_option linter.unusedVariables false
theorem Write_nil (i : Int) (v : Value) (w : World) : Calls Try.prog 16 #[.pointer none, I i, v] w fun e w' => e = .returned (I 11) ∧ w = w' := by
  go_enter Try.func16, Try.ntmps16
  go_wp2_with fail
  refine (ready_nil i _).mono ?_
  rintro e w' ⟨rfl, rfl⟩
  go_wp2
  go_ret
  exact ⟨rfl, rfl⟩
theorem Read_nil (i : Int) (w : World) : Calls Try.prog 20 #[.pointer none, I i] w fun e w' => e = .returned (.tuple #[.slice none 0 0, I 11]) ∧ w = w' := by
  go_enter Try.func20, Try.ntmps20
  go_wp2_with fail
  refine (ready_nil i _).mono ?_
  rintro e w' ⟨rfl, rfl⟩
  go_wp2
  go_ret2
  exact ⟨rfl, rfl⟩
theorem New_any (k : Int) (w : World) (S : Nat → Prop) (hS : ∀ k, w.heap.size ≤ k → S k) : Calls Try.prog 15 #[I k] w fun e w' => ∃ d, e = .returned (.pointer (some ⟨d, 0, none⟩)) ∧ DevAt S w' d (DevS.new k) ∧ New w w' :=
  (New_dev k w S hS).mono fun _ _ ⟨h1, h2, h3⟩ => ⟨_, h1, h2, h3⟩
theorem newdev_len (n : Int) : ((DevS.new n).lasts.length : Int) = min (max n 0) 512 := by
  simp only [DevS.new, List.length_replicate, countOf]; omega
set_option maxRecDepth 100000 in
set_option maxHeartbeats 4000000 in
theorem BlockNil_a (i n : Int) (w : World) (h1 : n < 0) : Calls Try.prog 7 #[I i, I n] w fun e w' => e = .returned (.bool true) ∧ Below w.heap.size w w' := by
  have HL := hid (newdev_len n)
  go_enter Try.func7, Try.ntmps7
  go_wp2_with fail
  refine (Off_nil _ _).mono ?_
  rintro e w1 ⟨rfl, rfl⟩
  go_wp2_with fail
  refine (On_nil _).mono ?_
  rintro e w1 ⟨rfl, rfl⟩
  go_wp2_with fail
  refine (Arm_nil _ _ _).mono ?_
  rintro e w1 ⟨rfl, rfl⟩
  go_wp2_with fail
  refine (Read_nil _ _).mono ?_
  rintro e w1 ⟨rfl, rfl⟩
  go_wp2_with fail
  refine (Write_nil _ _ _).mono ?_
  rintro e w1 ⟨rfl, rfl⟩
  go_wp2_with fail
  refine (Sync_nil _).mono ?_
  rintro e w1 ⟨rfl, rfl⟩
  go_wp2_with fail
  refine (Down_nil _).mono ?_
  rintro e w1 ⟨rfl, rfl⟩
  go_wp2_with fail
  refine (Len_dnil _).mono ?_
  rintro e w1 ⟨rfl, rfl⟩
  go_wp2_with fail
  refine (Pending_nil _).mono ?_
  rintro e w1 ⟨rfl, rfl⟩
  go_wp2_with fail
  refine (New_any n _ (fun _ => True) (fun _ _ => trivial)).mono ?_
  rintro e w1 ⟨d, rfl, hd, hn⟩
  have HD := hid hd
  have HN := hid hn
  clear hd hn
  go_wp2_with fail
  refine (Len_d HD.out).mono ?_
  rintro e w2 ⟨rfl, rfl⟩
  rw [HL.out]
  have hmin : min (max n 0) 512 = 0 := by omega
  rw [hmin]
  clear hmin
  go_wp2_with fail
  refine (awakeB_t _).mono ?_
  rintro e w2 ⟨rfl, hn⟩
  have HN2 := hid hn
  clear hn
  go_wp2_with fail
  go_ret
  exact ⟨rfl, (((((Chg.refl _ w).alloc _).alloc _).trans HN.out (fun _ _ e => e)).trans HN2.out (fun _ _ e => e)).below (fun _ e => e.elim) (Nat.le_refl _)⟩
set_option maxRecDepth 100000 in
set_option maxHeartbeats 4000000 in
theorem BlockNil_b (i n : Int) (w : World) (h1 : ¬ n < 0) (h2 : 512 < n) : Calls Try.prog 7 #[I i, I n] w fun e w' => e = .returned (.bool true) ∧ Below w.heap.size w w' := by
  have HL := hid (newdev_len n)
  go_enter Try.func7, Try.ntmps7
  go_wp2_with fail
  refine (Off_nil _ _).mono ?_
  rintro e w1 ⟨rfl, rfl⟩
  go_wp2_with fail
  refine (On_nil _).mono ?_
  rintro e w1 ⟨rfl, rfl⟩
  go_wp2_with fail
  refine (Arm_nil _ _ _).mono ?_
  rintro e w1 ⟨rfl, rfl⟩
  go_wp2_with fail
  refine (Read_nil _ _).mono ?_
  rintro e w1 ⟨rfl, rfl⟩
  go_wp2_with fail
  refine (Write_nil _ _ _).mono ?_
  rintro e w1 ⟨rfl, rfl⟩
  go_wp2_with fail
  refine (Sync_nil _).mono ?_
  rintro e w1 ⟨rfl, rfl⟩
  go_wp2_with fail
  refine (Down_nil _).mono ?_
  rintro e w1 ⟨rfl, rfl⟩
  go_wp2_with fail
  refine (Len_dnil _).mono ?_
  rintro e w1 ⟨rfl, rfl⟩
  go_wp2_with fail
  refine (Pending_nil _).mono ?_
  rintro e w1 ⟨rfl, rfl⟩
  go_wp2_with fail
  refine (New_any n _ (fun _ => True) (fun _ _ => trivial)).mono ?_
  rintro e w1 ⟨d, rfl, hd, hn⟩
  have HD := hid hd
  have HN := hid hn
  clear hd hn
  go_wp2_with fail
  refine (Len_d HD.out).mono ?_
  rintro e w2 ⟨rfl, rfl⟩
  rw [HL.out]
  have hmin : min (max n 0) 512 = 512 := by omega
  rw [hmin]
  clear hmin
  go_wp2_with fail
  refine (awakeB_t _).mono ?_
  rintro e w2 ⟨rfl, hn⟩
  have HN2 := hid hn
  clear hn
  go_wp2_with fail
  go_ret
  exact ⟨rfl, (((((Chg.refl _ w).alloc _).alloc _).trans HN.out (fun _ _ e => e)).trans HN2.out (fun _ _ e => e)).below (fun _ e => e.elim) (Nat.le_refl _)⟩
set_option maxRecDepth 100000 in
set_option maxHeartbeats 4000000 in
theorem BlockNil_c (i n : Int) (w : World) (h1 : ¬ n < 0) (h2 : ¬ 512 < n) : Calls Try.prog 7 #[I i, I n] w fun e w' => e = .returned (.bool true) ∧ Below w.heap.size w w' := by
  have HL := hid (newdev_len n)
  go_enter Try.func7, Try.ntmps7
  go_wp2_with fail
  refine (Off_nil _ _).mono ?_
  rintro e w1 ⟨rfl, rfl⟩
  go_wp2_with fail
  refine (On_nil _).mono ?_
  rintro e w1 ⟨rfl, rfl⟩
  go_wp2_with fail
  refine (Arm_nil _ _ _).mono ?_
  rintro e w1 ⟨rfl, rfl⟩
  go_wp2_with fail
  refine (Read_nil _ _).mono ?_
  rintro e w1 ⟨rfl, rfl⟩
  go_wp2_with fail
  refine (Write_nil _ _ _).mono ?_
  rintro e w1 ⟨rfl, rfl⟩
  go_wp2_with fail
  refine (Sync_nil _).mono ?_
  rintro e w1 ⟨rfl, rfl⟩
  go_wp2_with fail
  refine (Down_nil _).mono ?_
  rintro e w1 ⟨rfl, rfl⟩
  go_wp2_with fail
  refine (Len_dnil _).mono ?_
  rintro e w1 ⟨rfl, rfl⟩
  go_wp2_with fail
  refine (Pending_nil _).mono ?_
  rintro e w1 ⟨rfl, rfl⟩
  go_wp2_with fail
  refine (New_any n _ (fun _ => True) (fun _ _ => trivial)).mono ?_
  rintro e w1 ⟨d, rfl, hd, hn⟩
  have HD := hid hd
  have HN := hid hn
  clear hd hn
  go_wp2_with fail
  refine (Len_d HD.out).mono ?_
  rintro e w2 ⟨rfl, rfl⟩
  rw [HL.out]
  have hmin : min (max n 0) 512 = n := by omega
  rw [hmin]
  clear hmin
  go_wp2_with fail
  refine (awakeB_t _).mono ?_
  rintro e w2 ⟨rfl, hn⟩
  have HN2 := hid hn
  clear hn
  go_wp2_with fail
  go_ret
  exact ⟨rfl, (((((Chg.refl _ w).alloc _).alloc _).trans HN.out (fun _ _ e => e)).trans HN2.out (fun _ _ e => e)).below (fun _ e => e.elim) (Nat.le_refl _)⟩
theorem BlockNil_t (i n : Int) (w : World) : Calls Try.prog 7 #[I i, I n] w fun e w' => e = .returned (.bool true) ∧ Below w.heap.size w w' := by
  by_cases h1 : n < 0
  · exact BlockNil_a i n w h1
  · by_cases h2 : 512 < n
    · exact BlockNil_b i n w h1 h2
    · exact BlockNil_c i n w h1 h2
end Go.Proofs.Ytjlmbmamkhneiaa
