/- The walk of slices.Equal at bytes. -/
import Derived.Test.YtjlmbmamkhneiaaInc
namespace Go.Proofs.Ytjlmbmamkhneiaa
open Go Go.RowKit
set_option maxRecDepth 100000
theorem Rd.at {w : World} {v : Value} {xs : List UInt8} (h : Rd w v xs) : ∃ a c, v = .slice a xs.length c ∧ ∀ j, (hj : j < xs.length) → ∃ g off, a = some ⟨g, off, none⟩ ∧ w.cell? ⟨g, off + j, none⟩ = some (B xs[j]) := by
  obtain ⟨a, c, hv, _, _, hc⟩ := h
  rw [List.length_map] at hv
  exact ⟨a, c, hv, fun j hj => hc j _ (by simp [hj])⟩
theorem drewN_add (w : World) (a b : Nat) : (w.drewN a).drewN b = w.drewN (a + b) := by simp [World.drewN, Nat.add_assoc]
set_option maxHeartbeats 4000000 in
theorem equal_t (w : World) (va vb : Value) (xs ys : List UInt8) (hx : Rd w va xs) (hy : Rd w vb ys) (hlx : xs.length ≤ 1048576) (hly : ys.length ≤ 1048576) :
    Calls Try.prog 80 #[va, vb] w fun e w' => e = .returned (.bool (decide (xs = ys))) ∧ ∃ k, w' = w.drewN k := by
  obtain ⟨a, c, rfl, hc⟩ := hx.at
  obtain ⟨a', c', rfl, hc'⟩ := hy.at
  have HX := hid hc
  have HY := hid hc'
  clear hc hc' hx hy
  go_enter Try.func80, Try.ntmps80
  by_cases hl : xs.length = ys.length
  · rw [← hl] at hly ⊢
    have HL := hid hl
    clear hl
    go_wp2_with fail
    go_loopw [13] (fun k wr => ∃ m : Nat, k = .int .i64 m ∧ m ≤ xs.length ∧ xs.take m = ys.take m ∧ ∃ d, wr = w.drewN d) (fun k _ => xs.length - (intOf k).toNat)
    case atStart => exact ⟨0, rfl, by omega, rfl, 0, rfl⟩
    case round =>
      obtain ⟨m, rfl, hm, he, d, rfl⟩ := hrel
      by_cases hlt : m < xs.length
      · have hlt' : m < ys.length := by have := HL.out; omega
        obtain ⟨g, off, rfl, h1⟩ := HX.out m hlt
        obtain ⟨g', off', rfl, h2⟩ := HY.out m hlt'
        have T1 := hid (take_snoc hlt)
        have T2 := hid (take_snoc hlt')
        have HE := hid he
        have hne : Hid (xs = ys → xs[m] = ys[m]) := hid (fun e => by subst e; rfl)
        clear he
        generalize xs[m] = u at *
        generalize ys[m] = u' at *
        have hm1 : IntKind.i64.wrap ((m : Int) + 1) = ((m + 1 : Nat) : Int) := by rw [IntKind.wrap_i64]; omega
        have h1' : (w.drewN d).cell? ⟨g, off + m, none⟩ = some (B u) := h1
        have h2' : (w.drewN d).cell? ⟨g', off' + m, none⟩ = some (B u') := h2
        by_cases hu : u = u'
        · subst hu
          go_wp2_with fail
          go_quiet (fail)
          go_wp2_with fail
          exact ⟨⟨m + 1, rfl, by omega, by rw [T1.out, T2.out, HE.out], _, rfl⟩, by simp [intOf]; omega⟩
        · have hn : (u.toNat : Int) ≠ u'.toNat := fun e => hu (UInt8.toNat_inj.1 (by omega))
          go_wp2_with fail
          go_quiet (fail)
          go_wp2_with fail
          go_ret
          exact ⟨vr (by rw [decide_eq_false (fun e => hu (hne.out e))]; rfl), _, drewN_add _ _ _⟩
      · go_wp2_with fail
        go_ret
        obtain rfl : m = xs.length := by omega
        have e : xs = ys := by rw [List.take_length, HL.out, List.take_length] at he; exact he
        exact ⟨vr (by rw [decide_eq_true e]; rfl), _, rfl⟩
  · have hn : (xs.length : Int) ≠ ys.length := by omega
    go_wp2_with fail
    go_ret
    exact ⟨vr (by rw [decide_eq_false (fun e => hl (by rw [e]))]; rfl), 0, rfl⟩
end Go.Proofs.Ytjlmbmamkhneiaa
