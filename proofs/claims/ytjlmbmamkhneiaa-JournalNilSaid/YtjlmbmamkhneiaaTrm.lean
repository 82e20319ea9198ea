/- The walk of journal.terms. -/
import Derived.Test.YtjlmbmamkhneiaaPas
import Derived.Test.YtjlmbmamkhneiaaBnk
namespace Go.Proofs.Ytjlmbmamkhneiaa
open Go Go.RowKit
set_option maxRecDepth 100000
/-- What begins at a place: no frame, or one. -/
def Begins (bs : List UInt8) (r : Option (Nat × Nat × Nat × List UInt8)) : Prop :=
  match r with
  | none => ∃ h : 0 < bs.length, bs[0].toNat ≠ 165
  | some (g, n, t, b) => Framed bs g n t b ∧ g < 4294967296 ∧ n < 4294967296 ∧ t < 4294967296
def termOf : Option (Nat × Nat × Nat × List UInt8) → Nat
  | none => 0
  | some (_, _, t, _) => t
def maxT (R : Nat → Option (Nat × Nat × Nat × List UInt8)) : Nat → Nat
  | 0 => 0
  | m + 1 => max (maxT R m) (termOf (R m))
theorem maxT_lt (bs : List UInt8) (R : Nat → Option (Nat × Nat × Nat × List UInt8)) (m : Nat) (h : ∀ k, k < m → Begins (bs.drop (64 * k)) (R k)) : maxT R m < 4294967296 := by
  induction m with
  | zero => simp [maxT]
  | succ m ih =>
    have i := ih fun k hk => h k (by omega)
    have hm := h m (by omega)
    have : termOf (R m) < 4294967296 := by
      cases hr : R m with
      | none => simp [termOf]
      | some r => obtain ⟨g, n, t, b⟩ := r; rw [hr] at hm; exact hm.2.2.2
    simp only [maxT]; omega
theorem Rd.cap {w : World} {a : Option Addr} {n c : Nat} {l : List UInt8} (h : Rd w (.slice a n c) l) : n = l.length ∧ n ≤ c ∧ c ≤ maxLen := by
  obtain ⟨_, _, e, h1, h2, _⟩ := h
  injection e with _ e2 e3
  rw [List.length_map] at h1 e2
  omega
theorem Rd.drop {w : World} {a : Option Addr} {n c : Nat} {l : List UInt8} (h : Rd w (.slice a n c) l) (k : Nat) (hk : k ≤ l.length) : Rd w (.slice (Option.map (fun x => x.add k) a) (l.length - k) (c - k)) (l.drop k) := by
  obtain ⟨a', c', e, h1, h2, h3⟩ := h
  injection e with e1 e2 e3
  subst e1 e3
  rw [List.length_map] at h1
  refine ⟨_, c - k, by rw [List.length_map, List.length_drop], by rw [List.length_map, List.length_drop]; omega, by omega, fun j u hu => ?_⟩
  rw [List.getElem?_map, List.getElem?_drop, ← List.getElem?_map] at hu
  obtain ⟨g, off, rfl, hv⟩ := h3 _ u hu
  exact ⟨g, off + k, by simp [Addr.add], by rw [Nat.add_assoc]; exact hv⟩
def Parsed (w w' : World) (e : Ending) : Option (Nat × Nat × Nat × List UInt8) → Prop
  | none => e = .returned (.tuple #[.agg #[.int .u32 0, .int .u32 0, .int .u32 0, .slice none 0 0], .bool false])
  | some (g, n, t, b) => ∃ a c, e = .returned (.tuple #[.agg #[.int .u32 g, .int .u32 n, .int .u32 t, .slice a b.length c], .bool true]) ∧ w'.ownsRow w.heap.size 5 1 (.slice a b.length c) b.length (b.map B)
/-- parse of whatever begins there. -/
theorem parse_t (w : World) (v : Value) (bs : List UInt8) (h : Rd w v bs) (hl : bs.length ≤ 1048576) (r : Option (Nat × Nat × Nat × List UInt8)) (hb : Begins bs r) :
    Calls Try.prog 81 #[v] w fun e w' => New w w' ∧ Parsed w w' e r := by
  cases r with
  | none => obtain ⟨h0, hn⟩ := hb; exact (parse0_t w v bs h hl h0 hn).mono fun _ _ ⟨h1, h2⟩ => ⟨h2, h1⟩
  | some r =>
    obtain ⟨g, n, t, b⟩ := r
    refine (parse1_t w v bs h hl g n t b hb.1).mono ?_
    rintro e w' ⟨x, rfl, ho, hn⟩
    obtain ⟨ra, rc, rfl, _⟩ := owns_shape ho
    exact ⟨hn, _, _, rfl, ho⟩
set_option maxHeartbeats 4000000 in
theorem terms_t (w : World) (v : Value) (bs : List UInt8) (h : Rd w v bs) (m : Nat) (hl : bs.length = 64 * m) (hm : m ≤ 1000) (R : Nat → Option (Nat × Nat × Nat × List UInt8)) (hR : ∀ k, k < m → Begins (bs.drop (64 * k)) (R k)) :
    Calls Try.prog 63 #[v] w fun e w' => e = .returned (.int .u32 (maxT R m)) ∧ New w w' := by
  obtain ⟨a, c, hsh⟩ := h.shape
  rw [List.length_map] at hsh
  subst hsh
  have HR := hid hR
  have H := hid h
  have HL := hid hl
  have HM : Hid (∀ i, i ≤ m → maxT R i < 4294967296) := hid fun i hi => maxT_lt bs R i fun k hk => hR k (by omega)
  have hcap := h.cap.2.1
  have hmost : bs.length ≤ 1048576 := by omega
  clear h hR hl
  go_enter Try.func63, Try.ntmps63
  go_wp2_with fail
  go_loopw [3, 4] (fun v k wr => ∃ i p : Nat, p = 64 * i ∧ v = .int .u32 (maxT R i) ∧ k = .int .i64 p ∧ i ≤ m ∧ New w wr) (fun _ k _ => 64 * m - (intOf k).toNat)
  case atStart => exact ⟨0, 0, rfl, rfl, rfl, by omega, Chg.refl _ w⟩
  case round =>
    obtain ⟨W0, rfl⟩ : ∃ W0 : World, W0 = wr := ⟨_, rfl⟩
    obtain ⟨i, p, hp, rfl, rfl, hi, hC⟩ := hrel
    have C1 := hid hC
    have R1 := hid (show Rd W0 (.slice a bs.length c) bs from H.out.move (w' := W0) fun g hg hl => hC.block g hl (fun e => e))
    have hmax := HM.out i hi
    have hl := HL.out
    clear hC
    by_cases hlt : i < m
    · have hb := HR.out i hlt
      have hmax' := HM.out (i + 1) hlt
      rw [← hp] at hb
      have hpl : p < bs.length := by omega
      have hp64 : p + 64 ≤ 64 * m := by omega
      have ep : IntKind.i64.wrap ((p : Int) + 64) = ((p + 64 : Nat) : Int) := by rw [IntKind.wrap_i64]; omega
      have HP := hid hp
      have HB := hid hb
      have HE := hid (show maxT R (i + 1) = max (maxT R i) (termOf (R i)) from rfl)
      generalize hbe : maxT R (i + 1) = best' at *
      have HBE := hid hbe
      clear hbe
      generalize maxT R i = best at *
      clear hp hb hl
      go_wp2_with fail
      refine (parse_t W0 _ (bs.drop p) (R1.out.drop p (by omega)) (by simp; omega) (R i) HB.out).mono ?_
      rintro e w1 ⟨hn, hr⟩
      have N1 := hid (C1.out.trans hn (fun _ _ e => e))
      clear hn
      have he := HE.out
      cases hri : R i with
      | none =>
        rw [hri] at hr he
        subst hr
        have HE' := hid he
        clear he
        go_wp2_with fail
        exact ⟨⟨i + 1, p + 64, by have := HP.out; omega, vi (by have := HE'.out; have := HBE.out; simp only [termOf] at *; omega), rfl, by omega, N1.out.alloc _⟩, by simp [intOf]; omega⟩
      | some r =>
        obtain ⟨g, n, t, b⟩ := r
        rw [hri] at hr he
        obtain ⟨ra, rc, rfl, ho⟩ := hr
        have he' : best' = max best t := he
        have HE' := hid he'
        clear he he'
        go_wp2_with fail
        refine ⟨⟨i + 1, p + 64, by have := HP.out; omega, vi (by have := HE'.out; have := HBE.out; split <;> omega), rfl, by omega, N1.out.alloc _⟩, by simp [intOf]; omega⟩
    · have hpl : ¬ p < bs.length := by omega
      obtain rfl : i = m := by omega
      have HP := hid hp
      clear hp hl
      go_wp2_with fail
      go_ret
      exact ⟨rfl, C1.out⟩
end Go.Proofs.Ytjlmbmamkhneiaa
