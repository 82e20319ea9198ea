/- The walks of a name: the program's and the document's. -/
import Derived.Test.YtcnfmkhkibfpbaaProg
import Derived.Test.YtcnfmkhkibfpbaaMem
import Derived.Lib.OthersKept
import Derived.Laws.RangeAny
namespace Go.Proofs.Ytcnfmkhkibfpbaa
open Go Go.RowKit

/-- A letter; a digit behind the first place. -/
def OkAt (i b : Nat) : Prop := (97 ≤ b ∧ b ≤ 122) ∨ (i ≠ 0 ∧ 48 ≤ b ∧ b ≤ 57)
instance (i b : Nat) : Decidable (OkAt i b) := by unfold OkAt; exact inferInstance
def OkTo (s : ByteArray) (n : Nat) : Prop := ∀ i, (h : i < s.size) → i < n → OkAt i (s[i]'h).toNat
def NameOk (s : ByteArray) : Prop := 1 ≤ s.size ∧ s.size ≤ 8 ∧ OkTo s s.size
theorem vb {a b : Bool} (h : a = b) : Value.bool a = .bool b := by rw [h]
theorem OkTo.step {s : ByteArray} {n : Nat} (h : OkTo s n) (hn : n < s.size) (ho : OkAt n (s[n]'hn).toNat) : OkTo s (n + 1) := by
  intro i hi hlt
  by_cases e : i = n
  · subst e; exact ho
  · exact h i hi (by omega)
theorem not_name {s : ByteArray} {n : Nat} (hn : n < s.size) (ho : ¬ OkAt n (s[n]'hn).toNat) : ¬ NameOk s := fun h => ho (h.2.2 n hn hn)
open Classical in
noncomputable def nameB (s : ByteArray) : Bool := decide (NameOk s)
theorem nameB_false {s : ByteArray} {n : Nat} (hn : n < s.size) (ho : ¬ OkAt n (s[n]'hn).toNat) : nameB s = false := by simp [nameB, not_name hn ho]
theorem nameB_end {s : ByteArray} (h : OkTo s s.size) : nameB s = decide (1 ≤ s.size ∧ s.size ≤ 8) := by
  by_cases hs : 1 ≤ s.size ∧ s.size ≤ 8
  · simp [nameB, NameOk, h, hs]
  · have : ¬ NameOk s := fun e => hs ⟨e.1, e.2.1⟩
    simp [nameB, this, hs]
theorem nameB_len {s : ByteArray} (h : ¬ (1 ≤ s.size ∧ s.size ≤ 8)) : nameB s = false := by
  have : ¬ NameOk s := fun e => h ⟨e.1, e.2.1⟩
  simp [nameB, this]

set_option maxHeartbeats 4000000 in
theorem name_t (s : ByteArray) (hs : s.size ≤ 1048576) (w : World) : Calls Try.prog 24 #[.string s] w fun e w' => e = .returned (.bool (nameB s)) ∧ Below w.heap.size w w' := by
  go_enter Try.func24, Try.ntmps24
  go_wp2
  go_loopw [3] (fun _ wr => ∃ pos : Nat, pos ≤ s.size ∧ wr.heap[w.heap.size]? = some (.stringIter s pos) ∧ Below w.heap.size w wr ∧ OkTo s pos) (fun _ wr => s.size - wr.iterPos w.heap.size)
  case atStart =>
    refine ⟨0, by omega, ?_, (Below.refl _ w).alloc (Nat.le_refl _) _, fun i _ h => by omega⟩
    exact World.iter_heap w s 0
  case round =>
    obtain ⟨pos, hpl, hit, hbw, hok⟩ := hrel
    have HIT := hid hit
    have HB := hid hbw
    have HO := hid hok
    clear hbw hok
    by_cases hp : pos < s.size
    · have hit2 := hid (Lib.iterAt_heap wr w.heap.size s pos (pos + (Utf8.decode s pos).2) hit)
      have hbw2 := hid (Lib.below_iterAt HB.out (k := w.heap.size) (Nat.le_refl _) s (pos + (Utf8.decode s pos).2))
      have hnx : ∀ ty, (Instr.next (.pointer (some ⟨w.heap.size, 0, none⟩)) true ty).run Try.prog wr = _ := fun ty => Lib.run_next_any_at wr w.heap.size s pos ty hit hp
      by_cases ha : (s[pos]'hp).toNat < 128
      · rw [decode_ascii s pos hp ha] at hnx hit2 hbw2
        have HST := hid (fun ho => HO.out.step hp ho)
        have HNO := hid (nameB_false hp)
        generalize (s[pos]'hp).toNat = b at *
        by_cases hokb : OkAt pos b
        · have HS := hid (HST.out hokb)
          clear hit HST HNO
          unfold OkAt at hokb
          by_cases h1 : (97 : Int) ≤ b
          · have h2 : (b : Int) ≤ 122 := by omega
            go_wp2
            go_roundw
            case rel => exact ⟨pos + 1, by omega, hit2.out, hbw2.out, HS.out⟩
            case measure => simp only [World.iterPos, hit2.out, HIT.out]; omega
          · have h2 : ¬ (pos : Int) = 0 := by omega
            have h3 : (48 : Int) ≤ b := by omega
            have h4 : (b : Int) ≤ 57 := by omega
            have h5 : ¬ (b : Int) < 48 := by omega
            have h6 : ¬ (57 : Int) < b := by omega
            go_wp2
            go_roundw
            case rel => exact ⟨pos + 1, by omega, hit2.out, hbw2.out, HS.out⟩
            case measure => simp only [World.iterPos, hit2.out, HIT.out]; omega
        · have HF := hid (HNO.out hokb)
          unfold OkAt at hokb
          clear hit HST HNO
          by_cases h1 : (97 : Int) ≤ b
          · have h2 : ¬ (b : Int) ≤ 122 := by omega
            have h6 : (57 : Int) < b := by omega
            have h5 : ¬ (b : Int) < 48 := by omega
            by_cases h0 : (pos : Int) = 0
            · go_wp2
              go_ret
              exact ⟨by rw [HF.out]; rfl, hbw2.out⟩
            · go_wp2
              go_ret
              exact ⟨by rw [HF.out]; rfl, hbw2.out⟩
          · by_cases h0 : (pos : Int) = 0
            · go_wp2
              go_ret
              exact ⟨by rw [HF.out]; rfl, hbw2.out⟩
            · by_cases h5 : (b : Int) < 48
              · go_wp2
                go_ret
                exact ⟨by rw [HF.out]; rfl, hbw2.out⟩
              · have h6 : (57 : Int) < b := by omega
                go_wp2
                go_ret
                exact ⟨by rw [HF.out]; rfl, hbw2.out⟩
      · have hd := decode_high s pos hp (by omega)
        have HNO := hid (nameB_false hp (by unfold OkAt; omega))
        generalize (Utf8.decode s pos).1 = c at *
        generalize (Utf8.decode s pos).2 = d at *
        clear hit
        have h1 : (97 : Int) ≤ c := by omega
        have h2 : ¬ (c : Int) ≤ 122 := by omega
        have h5 : ¬ (c : Int) < 48 := by omega
        have h6 : (57 : Int) < c := by omega
        by_cases h0 : (pos : Int) = 0
        · go_wp2
          go_ret
          exact ⟨by rw [HNO.out]; rfl, hbw2.out⟩
        · go_wp2
          go_ret
          exact ⟨by rw [HNO.out]; rfl, hbw2.out⟩
    · have hnx : ∀ ty, (Instr.next (.pointer (some ⟨w.heap.size, 0, none⟩)) true ty).run Try.prog wr = _ := fun ty => Lib.run_next_end_at wr w.heap.size s pos ty hit hp
      obtain rfl : pos = s.size := by omega
      have HE := hid (nameB_end HO.out)
      clear hit
      by_cases h1 : (1 : Int) ≤ s.size
      · go_wp2
        go_ret
        exact ⟨by rw [HE.out]; exact vr (vb (decide_eq_decide.2 (by omega))), HB.out⟩
      · go_wp2
        go_ret
        exact ⟨by rw [HE.out]; exact vr (vb (decide_eq_false (by omega)).symm), HB.out⟩
set_option maxHeartbeats 4000000 in
theorem rname_t (s : ByteArray) (hs : s.size ≤ 1048576) (w : World) : Calls Try.prog 25 #[.string s] w fun e w' => e = .returned (.bool (nameB s)) ∧ w = w' := by
  by_cases hl1 : (s.size : Int) < 1
  · have HF := hid (nameB_len (s := s) (fun h => by omega))
    go_enter Try.func25, Try.ntmps25
    go_wp2
    go_ret
    exact ⟨by rw [HF.out]; rfl, rfl⟩
  by_cases hl2 : (8 : Int) < s.size
  · have HF := hid (nameB_len (s := s) (fun h => by omega))
    go_enter Try.func25, Try.ntmps25
    go_wp2
    go_ret
    exact ⟨by rw [HF.out]; rfl, rfl⟩
  go_enter Try.func25, Try.ntmps25
  go_wp2
  go_loop [3] (fun i => ∃ pos : Nat, i = .int .i64 pos ∧ pos ≤ s.size ∧ OkTo s pos) (fun i => s.size - (intOf i).toNat)
  case atStart => exact ⟨0, rfl, by omega, fun i _ h => by omega⟩
  case round =>
    obtain ⟨pos, rfl, hpl, hok⟩ := hrel
    have HO := hid hok
    clear hok
    by_cases hp : pos < s.size
    · have HST := hid (fun ho => HO.out.step hp ho)
      have HNO := hid (nameB_false hp)
      by_cases hokb : OkAt pos (s[pos]'hp).toNat
      · have HS := hid (HST.out hokb)
        clear HST HNO
        unfold OkAt at hokb
        by_cases h1 : (97 : Int) ≤ (s[pos]'hp).toNat
        · have h2 : ((s[pos]'hp).toNat : Int) ≤ 122 := by omega
          have h2' : ¬ (122 : Int) < ((s[pos]'hp).toNat : Int) := by omega
          go_wp2
          exact ⟨⟨pos + 1, by go_num, by omega, HS.out⟩, by simp [intOf]; omega⟩
        · have h2 : (0 : Int) < (pos : Int) := by omega
          have h3 : (48 : Int) ≤ (s[pos]'hp).toNat := by omega
          have h4 : ((s[pos]'hp).toNat : Int) ≤ 57 := by omega
          go_wp2
          exact ⟨⟨pos + 1, by go_num, by omega, HS.out⟩, by simp [intOf]; omega⟩
      · have HF := hid (HNO.out hokb)
        unfold OkAt at hokb
        clear HST HNO
        by_cases h1 : (97 : Int) ≤ (s[pos]'hp).toNat
        · have h2 : ¬ ((s[pos]'hp).toNat : Int) ≤ 122 := by omega
          have h2' : (122 : Int) < ((s[pos]'hp).toNat : Int) := by omega
          have h4 : ¬ ((s[pos]'hp).toNat : Int) ≤ 57 := by omega
          have h4' : (57 : Int) < ((s[pos]'hp).toNat : Int) := by omega
          have h5 : (48 : Int) ≤ (s[pos]'hp).toNat := by omega
          by_cases h0 : (0 : Int) < (pos : Int)
          · go_wp2
            go_ret
            exact ⟨by rw [HF.out]; rfl, rfl⟩
          · go_wp2
            go_ret
            exact ⟨by rw [HF.out]; rfl, rfl⟩
        · by_cases h0 : (0 : Int) < (pos : Int)
          · by_cases h5 : (48 : Int) ≤ (s[pos]'hp).toNat
            · have h4 : ¬ ((s[pos]'hp).toNat : Int) ≤ 57 := by omega
              have h4' : (57 : Int) < ((s[pos]'hp).toNat : Int) := by omega
              go_wp2
              go_ret
              exact ⟨by rw [HF.out]; rfl, rfl⟩
            · go_wp2
              go_ret
              exact ⟨by rw [HF.out]; rfl, rfl⟩
          · go_wp2
            go_ret
            exact ⟨by rw [HF.out]; rfl, rfl⟩
    · obtain rfl : pos = s.size := by omega
      have HE := hid (nameB_end HO.out)
      go_wp2
      go_ret
      exact ⟨by rw [HE.out]; exact vr (vb (decide_eq_true (by omega)).symm), rfl⟩
end Go.Proofs.Ytcnfmkhkibfpbaa
