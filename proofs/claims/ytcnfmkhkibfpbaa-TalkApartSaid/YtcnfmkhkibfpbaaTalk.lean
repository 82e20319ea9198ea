/- The walk of layer 7's example, and the law TalkName. -/
import Derived.Test.YtcnfmkhkibfpbaaEnc7
namespace Go.Proofs.Ytcnfmkhkibfpbaa
open Go Go.RowKit
theorem bytes_str {w : World} {v : Value} {l : List UInt8} (h : Rd w v l) : (convert 22 9 v).run Try.prog w = .ok (.string ⟨l.toArray⟩) w := by
  obtain ⟨a, c, rfl, h1, h2, h3⟩ := h
  cases l with
  | nil =>
    cases a with
    | none =>
      show (convert 22 9 (.slice none 0 c)).run Try.prog w = _
      rw [run_convert_bytes_string (P := Try.prog) w 22 9 5 none 0 c T22.under U5 U9]
      simp [Conv.bytesToString, Sem.run_pure]
      rfl
    | some a => exact run_convert_bytes_back (P := Try.prog) w 22 9 5 a c [] T22.under U5 U9 (fun j hj => absurd hj (Nat.not_lt_zero _))
  | cons x xs =>
    obtain ⟨g, off, rfl, _⟩ := h3 0 x rfl
    refine run_convert_bytes_back (P := Try.prog) w 22 9 5 ⟨g, off, none⟩ c (x :: xs) T22.under U5 U9 (fun j hj => ?_)
    obtain ⟨g', off', e, hc⟩ := h3 j _ (List.getElem?_eq_getElem hj)
    injection e with e
    injection e with e1 e2
    subst e1 e2
    rw [Addr.add_lit]; exact hc
abbrev nine : ByteArray := ⟨#[57, 97]⟩
theorem nine_no : nameB nine = false := nameB_false (n := 0) (by decide) (by decide : ¬ OkAt 0 57)
set_option maxHeartbeats 4000000 in
theorem awake7_t (w : World) : Calls Try.prog 21 #[] w fun e w' => e = .returned (.bool true) ∧ Chg (fun _ => False) w w' := by
  have hnine := nine_no
  have hann := ann_ok
  go_enter Try.func21, Try.ntmps21
  go_wp2_with fail
  refine (encode7_t w).mono ?_
  rintro e w1 ⟨r, rfl, hr, hc⟩
  have hcv := bytes_str hr
  have HC := hid hc
  have HR := hid hr
  clear hc hr
  go_wp2_with fail
  refine (name_t ann (by decide) _).mono ?_
  rintro e w2 ⟨rfl, hb⟩
  have HC2 := hid (HC.out.trans (chg_below hb) (fun _ _ e => e))
  clear hb
  go_wp2_with fail
  refine (name_t nine (by decide) _).mono ?_
  rintro e w3 ⟨rfl, hb⟩
  have HC3 := hid (HC2.out.trans (chg_below hb) (fun _ _ e => e))
  clear hb
  go_wp2
  go_ret
  exact ⟨rfl, HC3.out⟩
set_option maxHeartbeats 4000000 in
theorem talkName_t (s : ByteArray) (w : World) : Calls Try.prog 10 #[.string s] w fun e w' => e = .returned (.bool true) ∧ Below w.heap.size w w' := by
  by_cases hl : (40 : Int) < s.size
  · have h40 : 40 ≤ s.size := by omega
    have HSX := hid (show (s.extract 0 40).size ≤ 1048576 by rw [ByteArray.size_extract]; omega)
    go_enter Try.func10, Try.ntmps10
    go_wp2_with fail
    refine (name_t (s.extract 0 40) HSX.out _).mono ?_
    rintro e w2 ⟨rfl, hb⟩
    have HC := hid hb
    clear hb
    go_wp2_with fail
    refine (rname_t (s.extract 0 40) HSX.out _).mono ?_
    rintro e w3 ⟨rfl, rfl⟩
    go_wp2_with fail
    refine (awake7_t _).mono ?_
    rintro e w4 ⟨rfl, hc⟩
    have HC2 := hid ((Chg.of_below HC.out).trans hc (fun _ _ e => e.elim))
    clear hc
    go_wp2
    go_ret
    exact ⟨rfl, HC2.out.below (fun _ h => h) (Nat.le_refl _)⟩
  · have hs : s.size ≤ 1048576 := by omega
    go_enter Try.func10, Try.ntmps10
    go_wp2_with fail
    refine (name_t s hs _).mono ?_
    rintro e w2 ⟨rfl, hb⟩
    have HC := hid hb
    clear hb
    go_wp2_with fail
    refine (rname_t s hs _).mono ?_
    rintro e w3 ⟨rfl, rfl⟩
    go_wp2_with fail
    refine (awake7_t _).mono ?_
    rintro e w4 ⟨rfl, hc⟩
    have HC2 := hid ((Chg.of_below HC.out).trans hc (fun _ _ e => e.elim))
    clear hc
    go_wp2
    go_ret
    exact ⟨rfl, HC2.out.below (fun _ h => h) (Nat.le_refl _)⟩
end Go.Proofs.Ytcnfmkhkibfpbaa
