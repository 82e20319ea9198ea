/- The document's fields of a kind: the walks of Fields and Has; any text's Name. -/
import Derived.Test.YtcnfmkhkibfpbaaMay7
namespace Go.Proofs.Ytcnfmkhkibfpbaa
open Go Go.RowKit
set_option linter.unusedVariables false
abbrev New (w w' : World) : Prop := Chg (fun _ => False) w w'
/-- The letters of a kind's fields. -/
def fldL : Int → List UInt8
  | 1 => [120, 109] | 2 => [120, 109, 105, 116] | 3 => [120, 109, 105] | 4 => [120, 109, 105, 116] | 5 => [120, 109, 119] | 6 => [109, 105]
  | 7 => [117] | 8 => [117, 110] | 9 => [117, 110, 103] | 10 => [116, 117] | 11 => [117, 119] | 12 => [117, 110, 103] | _ => []
set_option maxRecDepth 100000 in
set_option maxHeartbeats 4000000 in
theorem fieldsR_t (k : Int) (h1 : 1 ≤ k) (h12 : k ≤ 12) (w : World) : Calls Try.prog 45 #[.int .i64 k] w fun e w' => e = .returned (.string ⟨(fldL k).toArray⟩) ∧ New w w' := by
  have c : ∀ o, New w (w.alloc o) := fun o => (Chg.refl _ w).alloc o
  rcases (by omega : k = 1 ∨ k = 2 ∨ k = 3 ∨ k = 4 ∨ k = 5 ∨ k = 6 ∨ k = 7 ∨ k = 8 ∨ k = 9 ∨ k = 10 ∨ k = 11 ∨ k = 12) with rfl | rfl | rfl | rfl | rfl | rfl | rfl | rfl | rfl | rfl | rfl | rfl
  all_goals
    go_enter Try.func45, Try.ntmps45
    go_wp2
    go_ret
    exact ⟨rfl, c _⟩
def hasB (k : Int) (c : UInt8) : Bool := (fldL k).contains c
theorem fld_small (k : Int) : (fldL k).length ≤ 4 := by unfold fldL; split <;> simp
set_option maxHeartbeats 4000000 in
theorem has_t (k : Int) (h1 : 1 ≤ k) (h12 : k ≤ 12) (c : UInt8) (z : Int) (hz : z = c.toNat) (w : World) : Calls Try.prog 33 #[.int .i64 k, .int .u8 z] w fun e w' => e = .returned (.bool (hasB k c)) ∧ New w w' := by
  subst hz
  have HF := hid (show hasB k c = (fldL k).contains c from rfl)
  have SM := hid (fld_small k)
  have F := fieldsR_t k h1 h12 w
  generalize fldL k = L at *
  have hsz : (⟨L.toArray⟩ : ByteArray).size = L.length := rfl
  have HSZ := hid hsz
  clear hsz
  go_enter Try.func33, Try.ntmps33
  go_wp2_with fail
  refine F.mono ?_
  rintro e w1 ⟨rfl, hn⟩
  have N1 := hid hn
  clear hn F
  have hget : ∀ (i : Nat) (hi : i < L.length), ((⟨L.toArray⟩ : ByteArray)[i]'(by rw [HSZ.out]; exact hi)) = L[i] := fun i hi => rfl
  have HG := hid hget
  generalize hs : (⟨L.toArray⟩ : ByteArray) = s at *
  clear hs hget
  go_wp2_with fail
  go_loopw [6] (fun i wr => ∃ m : Nat, i = .int .i64 m ∧ m ≤ L.length ∧ wr = w1 ∧ ∀ j, (hj : j < L.length) → j < m → L[j] ≠ c) (fun i _ => L.length - (intOf i).toNat)
  case atStart => exact ⟨0, rfl, by omega, rfl, fun j _ h => by omega⟩
  case round =>
    obtain ⟨m, rfl, hm, rfl, hno⟩ := hrel
    have HN := hid hno
    have hsm := SM.out
    clear hno
    by_cases hlt : m < L.length
    · have hms : m < s.size := by rw [HSZ.out]; exact hlt
      have hms' : (m : Int) < (s.size : Int) := by omega
      by_cases he : L[m] = c
      · have hb : ((s[m]'hms).toNat : Int) = (c.toNat : Int) := by rw [HG.out m hlt, he]
        have CT := hid (show hasB k c = true by rw [HF.out]; simp only [List.contains_eq_any_beq]; rw [List.any_eq_true]; exact ⟨L[m], List.getElem_mem hlt, by rw [he]; simp⟩)
        clear he
        go_wp2_with fail
        go_ret
        exact ⟨by rw [CT.out]; try rfl, N1.out⟩
      · have hb : ¬ ((s[m]'hms).toNat : Int) = (c.toNat : Int) := by
          rw [HG.out m hlt]
          intro e
          exact he (UInt8.toNat_inj.1 (by omega))
        have HE := hid he
        clear he
        go_wp2_with fail
        go_roundw
        case rel => exact ⟨m + 1, by go_num, by omega, by first | rfl | trivial, fun j hj hjm => by
          by_cases e : j = m
          · subst e; exact HE.out
          · exact HN.out j hj (by omega)⟩
        case measure => simp [intOf]; omega
    · have hge : ¬ (m : Int) < (s.size : Int) := by rw [HSZ.out]; omega
      have CF := hid (show hasB k c = false by
        rw [HF.out, List.contains_eq_any_beq, List.any_eq_false]
        intro x hx
        obtain ⟨j, hj, rfl⟩ := List.mem_iff_getElem.1 hx
        have := HN.out j hj (by omega)
        simpa using this.symm)
      go_wp2_with fail
      go_ret
      exact ⟨by rw [CF.out]; rfl, N1.out⟩
set_option maxHeartbeats 4000000 in
theorem rname_any (s : ByteArray) (w : World) : Calls Try.prog 25 #[.string s] w fun e w' => e = .returned (.bool (nameB s)) ∧ w = w' := by
  by_cases hs : s.size ≤ 1048576
  · exact rname_t s hs w
  · have hl2 : (8 : Int) < s.size := by omega
    have HF := hid (nameB_len (s := s) (fun h => by omega))
    clear hs
    go_enter Try.func25, Try.ntmps25
    go_wp2
    go_ret
    exact ⟨by rw [HF.out]; rfl, rfl⟩
end Go.Proofs.Ytcnfmkhkibfpbaa
