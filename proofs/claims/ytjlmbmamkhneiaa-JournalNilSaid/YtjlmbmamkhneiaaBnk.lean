/- The walk of Journal.bank. -/
import Derived.Test.YtjlmbmamkhneiaaJou
import Derived.Test.YtjlmbmamkhneiaaIna
import Derived.Test.YtjlmbmamkhneiaaTor
import Derived.Test.YtjlmbmamkhneiaaHub7
namespace Go.Proofs.Ytjlmbmamkhneiaa
open Go Go.RowKit
set_option maxRecDepth 100000
/-- m blocks from one on. -/
def bankL (D : DevS) (i m : Nat) : List UInt8 := ((List.range m).map fun k => D.block (i + k)).flatten
theorem bankL_succ (D : DevS) (i m : Nat) : bankL D i (m + 1) = bankL D i m ++ D.block (i + m) := by
  simp [bankL, List.range_succ]
theorem bankL_len {D : DevS} (h : DevOk D) (i : Nat) : ∀ m, i + m ≤ D.lasts.length → (bankL D i m).length = 64 * m
  | 0, _ => rfl
  | m + 1, hm => by rw [bankL_succ, List.length_append, bankL_len h i m (by omega), block_len h (by omega)]; omega
theorem bankL_drop {D : DevS} (h : DevOk D) (i : Nat) : ∀ m k, i + m ≤ D.lasts.length → k < m → ∃ rest, (bankL D i m).drop (64 * k) = D.block (i + k) ++ rest
  | 0, _, _, hk => by omega
  | m + 1, k, hm, hk => by
    rw [bankL_succ]
    have hl := bankL_len h i m (by omega)
    by_cases e : k = m
    · subst e
      exact ⟨[], by rw [List.drop_append, List.drop_eq_nil_of_le (by omega), hl]; simp⟩
    · obtain ⟨r, hr⟩ := bankL_drop h i m k (by omega) (by omega)
      exact ⟨r ++ D.block (i + m), by rw [List.drop_append_of_le_length (by rw [hl]; omega), hr, List.append_assoc]⟩
theorem DevAt.okk {S : Nat → Prop} {w : World} {d : Nat} {D : DevS} (h : DevAt S w d D) : DevOk D := let ⟨_, _, _, h⟩ := h; h.ok
/-- A block that is there is read. -/
theorem read_t {S : Nat → Prop} {w : World} {d : Nat} {D : DevS} (h : DevAt S w d D) (hdn : D.down = false) (i : Nat) (hi : i < D.lasts.length) :
    Calls Try.prog 20 #[.pointer (some ⟨d, 0, none⟩), I i] w fun e w' => ∃ a c, e = .returned (.tuple #[.slice a 64 c, I 0]) ∧ w'.ownsRow w.heap.size 5 1 (.slice a 64 c) 64 ((D.block i).map B) ∧ New w w' := by
  refine (Read_t h i).mono ?_
  rintro e w' ⟨hg, _, hn⟩
  have hr : D.ready i = 0 := by unfold DevS.ready; rw [if_neg (by simp [hdn]), if_pos (by omega)]
  rcases hg with ⟨_, r, rfl, ho⟩ | ⟨h1, _⟩
  · obtain ⟨a, c, rfl, _⟩ := owns_shape ho
    exact ⟨a, c, rfl, ho, hn⟩
  · exact absurd hr h1
theorem Rd.ofB {w : World} {base : Nat} {v : Value} {n : Nat} {l : List UInt8} (h : w.ownsRow base 5 1 v n (l.map B)) : Rd w v l := by
  have hn := h.1
  rw [List.length_map, Nat.mul_one] at hn
  subst hn
  exact Rd.ofP (OutP.Rd.of_owns h)
theorem DevAt.drawn {S : Nat → Prop} {w : World} {d : Nat} {D : DevS} (h : DevAt S w d D) (n : Nat) : DevAt S (w.drewN n) d D := let ⟨g, a, b, h⟩ := h; ⟨g, a, b, h.same rfl⟩
set_option maxHeartbeats 4000000 in
theorem bank_t {S : Nat → Prop} (w : World) (j d size gen0 term used many gen : Nat) (D : DevS) (h : JIs w j d size gen0 term used many) (hd : DevAt S w d D) (hdn : D.down = false) (hs : 2 + 2 * size ≤ D.lasts.length) (hg : gen < 4294967296) :
    Calls Try.prog 64 #[.pointer (some ⟨j, 0, none⟩), .int .u32 gen] w fun e w' => ∃ v, e = .returned v ∧ w'.ownsRow w.heap.size 5 1 v (bankL D (2 + gen % 2 * size) size).length ((bankL D (2 + gen % 2 * size) size).map B) ∧ New w w' := by
  have hok := hd.okk
  have hmost := hok.most
  have hfst : 2 + gen % 2 * size + size ≤ D.lasts.length := by
    have : gen % 2 = 0 ∨ gen % 2 = 1 := by omega
    rcases this with e | e <;> rw [e] <;> omega
  have F1 : Hid (∀ w', JIs w' j d size gen0 term used many → Calls Try.prog 68 #[.pointer (some ⟨j, 0, none⟩), .int .u32 gen] w' fun e w'' => e = .returned (I ((2 + gen % 2 * size : Nat) : Int)) ∧ w' = w'') := hid fun w' h' => jfirst_t w' j d size gen0 term used many gen h' (by omega) hg
  generalize 2 + gen % 2 * size = fst at *
  have HJ := hid h
  have HD := hid hd
  obtain ⟨c0, c1, c2, c3, c4, c5, c6, cf⟩ := cells7 h
  clear h hd c0 c2 c3 c4 c5 c6 cf
  go_enter Try.func64, Try.ntmps64
  go_wp2_with fail
  go_loopw [5, 13] (fun v k wr => ∃ m : Nat, k = .int .i64 m ∧ m ≤ size ∧ wr.ownsRow w.heap.size 5 1 v (bankL D fst m).length ((bankL D fst m).map B) ∧ New w wr) (fun _ k _ => size - (intOf k).toNat)
  case atStart => exact ⟨0, rfl, by omega, ⟨rfl, .inl ⟨rfl, rfl⟩⟩, Chg.refl _ w⟩
  case round =>
    obtain ⟨W0, rfl⟩ : ∃ W0 : World, W0 = wr := ⟨_, rfl⟩
    obtain ⟨m, rfl, hm, hO, hC⟩ := hrel
    have C1 := hid hC
    have O1 := hid hO
    have J1 := hid (HJ.out.chg hC (fun e => e))
    have D1 := hid (HD.out.new hC)
    clear hC hO
    by_cases hlt : m < size
    · have c0 : W0.cell? ⟨j, 0, none⟩ = some (.pointer (some ⟨d, 0, none⟩)) := (cells7 J1.out).1
      have hadd : IntKind.i64.wrap ((fst : Int) + m) = ((fst + m : Nat) : Int) := by rw [IntKind.wrap_i64]; omega
      have hm1 : IntKind.i64.wrap ((m : Int) + 1) = ((m + 1 : Nat) : Int) := by rw [IntKind.wrap_i64]; omega
      have JD := hid (show JIs W0.drew j d size gen0 term used many from J1.out)
      have DD := hid (show DevAt S W0.drew d D from D1.out.drawn 1)
      have OD := hid (show W0.drew.ownsRow w.heap.size 5 1 _ (bankL D fst m).length ((bankL D fst m).map B) from O1.out)
      have CD := hid (show New w W0.drew from C1.out.drewN 1)
      go_wp2_with fail
      go_region_held3 (fun w' => w'.cell? ⟨j, 0, none⟩ = some (.pointer (some ⟨d, 0, none⟩)))
        (first | exact (cells7 J1.out).1 | exact (cells7 JD.out).1 | exact (cells7 J2.out).1 | go_keep)
        (first
          | (go_at_call 68; refine (F1.out _ JD.out).mono ?_; rintro e w2 ⟨rfl, rfl⟩)
          | (go_at_call 20; refine (read_t (S := S) (D := D) DD.out hdn (fst + m) (by omega)).mono ?_; rintro e w3 ⟨ra, rc, rfl, ho3, hn3⟩; have O3 := hid ho3; have J2 := hid (JD.out.chg hn3 (fun e => e)); have N3 := hid hn3; clear ho3 hn3))
      have C3 := hid (CD.out.trans N3.out (fun _ _ e => e))
      go_wp2_with (at_builtin; refine OutP.wpl_append_bytes rfl _ _ 22 rfl OutP.T22 w.heap.size _ (bankL D fst m) rfl (own_chg OD.out N3.out (fun _ e => e.elim)) _ rfl (D.block (fst + m)) (Rd.ofB O3.out).toP ?c1 ?c2 ?c3)
      case c1 => rw [bankL_len hok _ _ (by omega), block_len hok (by omega)]; omega
      case c2 => exact C3.out.size
      case c3 =>
        intro v' w4 hown' hg'
        have O4 := hid hown'
        have C4 := hid (C3.out.grown hg' (fun k hk hlt => by have := own_base OD.out k hk; omega))
        clear hown' hg'
        go_wp2_with fail
        exact ⟨⟨m + 1, rfl, by omega, by rw [bankL_succ, List.length_append, List.map_append]; exact O4.out, C4.out⟩, by simp [intOf]; omega⟩
    · go_wp2_with fail
      go_ret
      obtain rfl : m = size := by omega
      exact ⟨_, rfl, O1.out, C1.out⟩
end Go.Proofs.Ytjlmbmamkhneiaa
