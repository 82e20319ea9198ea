/- The walk of the law BlockArm. -/
import Derived.Test.YtjlmbmamkhneiaaBkn
namespace Go.Proofs.Ytjlmbmamkhneiaa
open Go Go.RowKit
set_option linter.unusedVariables false
/-- Behind c acts of a device that was armed with a. -/
structure Fused (a : Int) (c : Nat) (D : DevS) : Prop where
  two : D.lasts.length = 2
  few : D.pend.length ≤ c
  is : (a ≤ 0 ∧ D.fuse = 0 ∧ D.down = false) ∨ (0 < a ∧ (c : Int) < a ∧ (D.fuse : Int) = a - c ∧ D.down = false) ∨ (0 < a ∧ a ≤ c ∧ D.down = true)
/-- What an act that is number c answers. -/
def told (a : Int) (c : Nat) : Int := if 0 < a ∧ a ≤ c then 9 else 0
theorem off_two (D : DevS) (keep : List Int) : (D.off keep).lasts.length = D.lasts.length ∧ (D.off keep).pend.length ≤ D.pend.length ∧ (D.off keep).down = true := by
  unfold DevS.off
  cases hd : D.down
  · rw [if_neg (by decide)]; exact ⟨tear_len _ _ _ _, Nat.zero_le _, rfl⟩
  · rw [if_pos rfl]; exact ⟨rfl, Nat.le_refl _, hd⟩
theorem act_fused {a : Int} {c : Nat} {D : DevS} (h : Fused a c D) (hd : D.down = false) : Fused a (c + 1) D.act.1 ∧ (D.act.2 = true ↔ told a (c + 1) = 0) ∧ (D.act.2 = true → D.act.1.down = false) := by
  unfold DevS.act told
  rcases h.is with ⟨h1, h2, h3⟩ | ⟨h1, h2, h3, h4⟩ | ⟨_, _, h3⟩
  · rw [if_pos h2]
    refine ⟨⟨h.two, Nat.le_trans h.few (by omega), .inl ⟨h1, h2, h3⟩⟩, ?_, fun _ => hd⟩
    rw [if_neg (by omega)]; simp
  · have hne : ¬ D.fuse = 0 := by omega
    rw [if_neg hne]
    by_cases h5 : 1 < D.fuse
    · rw [if_pos h5]
      refine ⟨⟨h.two, Nat.le_trans h.few (by omega), .inr (.inl ⟨h1, by omega, by show ((D.fuse - 1 : Nat) : Int) = _; omega, h4⟩)⟩, ?_, fun _ => hd⟩
      rw [if_neg (by omega)]; simp
    · rw [if_neg h5]
      obtain ⟨o1, o2, o3⟩ := off_two { D with fuse := 0 } D.keep
      refine ⟨⟨o1.trans h.two, Nat.le_trans o2 (Nat.le_trans h.few (by omega)), .inr (.inr ⟨h1, by omega, o3⟩)⟩, ?_, fun e => by cases e⟩
      rw [if_pos (by omega)]; simp
  · rw [hd] at h3; cases h3
theorem told_cases (a : Int) (c : Nat) : told a c = 0 ∨ told a c = 9 := by unfold told; split <;> simp
theorem write_fused {a : Int} {c : Nat} {D : DevS} (h : Fused a c D) (i : Int) (hi : 0 ≤ i ∧ i < 2) (b : List UInt8) (hb : b.length ≤ 64) : Fused a (c + 1) (D.write i b).1 ∧ (D.write i b).2 = told a (c + 1) := by
  unfold DevS.write
  cases hd : D.down
  · have hr : D.ready i = 0 := by unfold DevS.ready; rw [hd, if_neg (by decide), if_pos (by rw [h.two]; omega)]
    rw [if_neg (by rw [hr]; simp), if_neg (by omega)]
    obtain ⟨f1, f2, f3⟩ := act_fused h hd
    cases ha : D.act.2
    · rw [if_neg (by decide)]
      refine ⟨f1, ?_⟩
      rcases told_cases a (c + 1) with h0 | h0
      · exact absurd (f2.2 h0) (by rw [ha]; decide)
      · exact h0.symm
    · rw [if_pos rfl]
      obtain ⟨a1, a2, _⟩ := act_true ha
      exact ⟨⟨f1.two, by show (D.act.1.pend ++ [(i.toNat, pad b)]).length ≤ _; rw [a2]; simp; exact h.few, f1.is⟩, (f2.1 ha).symm⟩
  · have hr : D.ready i = 9 := by unfold DevS.ready; rw [hd, if_pos rfl]
    rw [if_pos (by rw [hr]; decide)]
    rcases h.is with ⟨_, _, h3⟩ | ⟨_, _, _, h3⟩ | ⟨h1, h2, h3⟩
    · rw [hd] at h3; cases h3
    · rw [hd] at h3; cases h3
    · exact ⟨⟨h.two, Nat.le_trans h.few (by omega), .inr (.inr ⟨h1, by omega, h3⟩)⟩, by rw [hr]; unfold told; rw [if_pos (by omega)]⟩
theorem sync_fused {a : Int} {c : Nat} {D : DevS} (h : Fused a c D) : Fused a (c + 1) D.sync.1 ∧ D.sync.2 = told a (c + 1) := by
  unfold DevS.sync
  cases hd : D.down
  · rw [if_neg (by decide)]
    obtain ⟨f1, f2, f3⟩ := act_fused h hd
    cases ha : D.act.2
    · rw [if_neg (by decide)]
      refine ⟨f1, ?_⟩
      rcases told_cases a (c + 1) with h0 | h0
      · exact absurd (f2.2 h0) (by rw [ha]; decide)
      · exact h0.symm
    · rw [if_pos rfl]
      exact ⟨⟨by show (settle _ _).length = 2; rw [settle_len]; exact f1.two, Nat.zero_le _, f1.is⟩, (f2.1 ha).symm⟩
  · rw [if_pos rfl]
    rcases h.is with ⟨_, _, h3⟩ | ⟨_, _, _, h3⟩ | ⟨h1, h2, h3⟩
    · rw [hd] at h3; cases h3
    · rw [hd] at h3; cases h3
    · exact ⟨⟨h.two, Nat.le_trans h.few (by omega), .inr (.inr ⟨h1, by omega, h3⟩)⟩, by unfold told; rw [if_pos (by omega)]⟩
theorem down_told {a : Int} {c : Nat} {D : DevS} (h : Fused a c D) : D.down = decide (told a c = 9) := by
  unfold told
  rcases h.is with ⟨h1, h2, h3⟩ | ⟨h1, h2, h3, h4⟩ | ⟨h1, h2, h3⟩
  · rw [h3, if_neg (by omega)]; rfl
  · rw [h4, if_neg (by omega)]; rfl
  · rw [h3, if_pos (by omega)]; rfl
theorem arm_fused (a : Int) : Fused a 0 ((DevS.new 2).arm a [64]) := by
  refine ⟨rfl, Nat.zero_le _, ?_⟩
  by_cases h : a ≤ 0
  · exact .inl ⟨h, by show (max a 0).toNat = 0; omega, rfl⟩
  · exact .inr (.inl ⟨by omega, by omega, by show ((max a 0).toNat : Int) = _; omega, rfl⟩)
def cnt (l : List Bool) (m : Nat) : Nat := (l.take m).countP (· = true)
theorem cnt_step {l : List Bool} {m : Nat} (h : m < l.length) : cnt l (m + 1) = cnt l m + (if l[m] = true then 1 else 0) := by
  unfold cnt; rw [take_snoc h, List.countP_append]; simp [List.countP_cons]
theorem cnt_le (l : List Bool) (m : Nat) : cnt l m ≤ m := Nat.le_trans List.countP_le_length (by simp; omega)
end Go.Proofs.Ytjlmbmamkhneiaa
