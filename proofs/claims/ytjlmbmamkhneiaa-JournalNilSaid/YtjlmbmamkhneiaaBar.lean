/- Which devices are bare: one made anew, and one with a record. -/
import Derived.Test.YtjlmbmamkhneiaaOpn1
import Derived.Test.YtjlmbmamkhneiaaBkn
namespace Go.Proofs.Ytjlmbmamkhneiaa
open Go Go.RowKit
set_option maxRecDepth 100000
theorem begins_none (l rest : List UInt8) (h : l = blank ++ rest) : Begins l none := by
  rw [show blank ++ rest = (0 : UInt8) :: (List.replicate 63 0 ++ rest) from rfl] at h
  subst h
  exact ⟨by simp, by simp⟩
theorem block_plain (D : DevS) (h : D.pend = []) (i : Nat) : D.block i = D.lasts.getD i [] := by simp [DevS.block, h]
/-- All blocks of a device but those of P are noughts. -/
theorem bare_none {D : DevS} (hok : DevOk D) (i m k : Nat) (hm : i + m ≤ D.lasts.length) (hk : k < m) (hb : D.block (i + k) = blank) : Begins ((bankL D i m).drop (64 * k)) none := by
  obtain ⟨rest, hr⟩ := bankL_drop hok i m k hm hk
  rw [hb] at hr
  exact begins_none _ rest hr
theorem new_ok (n : Nat) (h : n ≤ 512) : DevOk (DevS.new n) ∧ (DevS.new n).lasts.length = n ∧ ∀ i, i < n → (DevS.new n).block i = blank := by
  have hc : countOf n = n := by unfold countOf; omega
  refine ⟨⟨?_, ?_, ?_, ?_, ?_⟩, ?_, ?_⟩
  · intro b hb; simp [DevS.new] at hb; rw [hb.2]; simp [blank]
  · intro p hp; simp [DevS.new] at hp
  · simp [DevS.new, hc]; exact h
  · simp [DevS.new]
  · simp [DevS.new]
  · simp [DevS.new, hc]
  · intro i hi
    rw [block_plain _ rfl]
    simp [DevS.new, hc, hi]
theorem blank_head : blank.take 1 ≠ [79] := by simp [blank]
theorem bare_new (n : Nat) (h4 : 4 ≤ n) (h : n ≤ 512) : Bare (DevS.new n) ((n - 2) / 2) none := by
  obtain ⟨hok, hl, hb⟩ := new_ok n h
  refine ⟨rfl, rfl, by rw [hl], by rw [hl]; exact h4, ?_, ?_, ?_, ?_, ?_, ?_⟩
  · intro k hk; rw [hb k (by omega)]; exact blank_head
  · intro k hk
    have : (if k = 0 then frameOf none else none) = none := by simp [frameOf]
    rw [this]
    exact bare_none hok 2 _ k (by rw [hl]; omega) hk (hb _ (by omega))
  · intro k hk
    exact bare_none hok _ _ k (by rw [hl]; omega) hk (hb _ (by omega))
  · intro k _ hk; exact hb _ (by omega)
  · intro t b hr; cases hr
  · simp [recN]; omega
def abc : List UInt8 := [97, 98, 99]
/-- The device behind the example's Append and Sync. -/
def oneD : DevS := (putD (DevS.new (10 : Nat)) 2 (OutP.frBytes 0 0 1 abc) 1).synced
theorem one_lasts : oneD.lasts = (List.replicate 10 blank).set 2 (pad (OutP.frBytes 0 0 1 abc)) ∧ oneD.pend = [] := by
  have hl : (OutP.frBytes 0 0 1 abc).length = 22 := by
    have := congrArg List.length (frBytes_split 0 0 1 abc [])
    rw [List.append_nil] at this
    rw [this]; simp [OutP.be_len, abc]
  refine ⟨?_, rfl⟩
  have ht : ((OutP.frBytes 0 0 1 abc).drop (64 * 0)).take 64 = OutP.frBytes 0 0 1 abc := by
    rw [List.drop_zero, List.take_of_length_le (by omega)]
  show settle ([] ++ [(2 + 0, pad (((OutP.frBytes 0 0 1 abc).drop (64 * 0)).take 64))]) (List.replicate (countOf ((10 : Nat) : Int)) blank) = _
  rw [ht]
  rfl
theorem bare_one : Bare oneD 4 (some (1, abc)) := by
  obtain ⟨hlasts, hpend⟩ := one_lasts
  have hl : (OutP.frBytes 0 0 1 abc).length = 22 := by
    have := congrArg List.length (frBytes_split 0 0 1 abc [])
    rw [List.append_nil] at this
    rw [this]; simp [OutP.be_len, abc]
  have hlen : oneD.lasts.length = 10 := by rw [hlasts]; simp
  have hb : ∀ i, i < 10 → i ≠ 2 → oneD.block i = blank := fun i hi h2 => by
    rw [block_plain _ hpend, hlasts, List.getD_eq_getElem?_getD, List.getElem?_set_ne (by omega), List.getElem?_replicate, if_pos hi]; rfl
  have hb2 : oneD.block 2 = pad (OutP.frBytes 0 0 1 abc) := by
    rw [block_plain _ hpend, hlasts, List.getD_eq_getElem?_getD, List.getElem?_set_self (by simp)]; rfl
  have hok : DevOk oneD := by
    refine ⟨?_, ?_, by omega, Nat.zero_le _, by rw [hpend]; simp⟩
    · intro b hb
      rw [hlasts] at hb
      rcases List.mem_or_eq_of_mem_set hb with h | h
      · rw [(List.mem_replicate.1 h).2]; simp [blank]
      · rw [h, pad_len (by omega)]
    · intro p hp; rw [hpend] at hp; cases hp
  refine ⟨rfl, rfl, by rw [hlen], by rw [hlen]; omega, ?_, ?_, ?_, ?_, ?_, ?_⟩
  · intro k hk; rw [hb k (by omega) (by omega)]; exact blank_head
  · intro k hk
    by_cases h0 : k = 0
    · subst h0
      obtain ⟨rest, hr⟩ := bankL_drop hok 2 4 0 (by omega) (by omega)
      rw [if_pos rfl, hr, show 2 + 0 = 2 from rfl, hb2]
      refine ⟨?_, by omega, by omega, by omega⟩
      unfold pad
      rw [List.append_assoc]
      exact framed 0 0 1 (by omega) (by omega) (by omega) abc _ (by simp [abc])
    · rw [if_neg h0]
      exact bare_none hok 2 4 k (by omega) hk (hb _ (by omega) (by omega))
  · intro k hk
    exact bare_none hok _ 4 k (by omega) hk (hb _ (by omega) (by omega))
  · intro k h1 hk; simp only [recN] at h1; exact hb _ (by omega) (by omega)
  · intro t b hr; cases hr; exact ⟨by simp [abc], by omega⟩
  · simp [recN]
end Go.Proofs.Ytjlmbmamkhneiaa
