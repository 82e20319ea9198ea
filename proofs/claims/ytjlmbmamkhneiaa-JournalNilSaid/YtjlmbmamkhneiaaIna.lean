/- The walks of bits.In: Of, has, Bits, Err (where no error comes). -/
import Derived.Test.YtjlmbmamkhneiaaClo
import Derived.Test.YtjlmbmamkhneiaaOpC
namespace Go.Proofs.Ytjlmbmamkhneiaa
open Go Go.RowKit
set_option maxRecDepth 100000

theorem Chg.ofP {S : Nat → Prop} {w w' : World} (h : OutP.Chg S w w') : Chg S w w' := ⟨h.os, h.tape, h.output, h.size, h.block⟩
theorem Chg.toP {S : Nat → Prop} {w w' : World} (h : Chg S w w') : OutP.Chg S w w' := ⟨h.os, h.tape, h.output, h.size, h.block⟩
theorem Rd.toP {w : World} {v : Value} {bs : List UInt8} (h : Rd w v bs) : OutP.Rd w v bs := by
  obtain ⟨a, c, hv, h1, h2, h3⟩ := h
  rw [List.length_map] at hv h1
  exact ⟨a, c, hv, h1, h2, fun j u hu => h3 j (B u) (by simp [hu])⟩
theorem Rd.ofP {w : World} {v : Value} {bs : List UInt8} (h : OutP.Rd w v bs) : Rd w v bs := by
  obtain ⟨a, c, hv, h1, h2, h3⟩ := h
  refine ⟨a, c, by rw [List.length_map]; exact hv, by rw [List.length_map]; exact h1, h2, fun j u hu => ?_⟩
  rw [List.getElem?_map] at hu
  cases hb : bs[j]? with
  | none => simp [hb] at hu
  | some x =>
    rw [hb] at hu
    cases hu
    exact h3 j x hb

/-- A reader of bits stands at block q: the bytes bs, a bits of them read, no error. -/
structure InAt (w : World) (q : Nat) (vb : Value) (bs : List UInt8) (a : Nat) : Prop where
  cells : w.heap[q]? = some (.cells #[vb, .int .i64 a, .int .i64 0] 142 (0, 0))
  rd : Rd w vb bs
  ne : ∀ g, vb.ownBlock = some g → g ≠ q
  few : bs.length ≤ 1048576
theorem cells3 {w : World} {g : Nat} {t : TypeId} {x0 x1 x2 : Value} (hg : w.heap[g]? = some (.cells #[x0, x1, x2] t (0, 0))) :
    w.cell? ⟨g, 0, none⟩ = some x0 ∧ w.cell? ⟨g, 1, none⟩ = some x1 ∧ w.cell? ⟨g, 2, none⟩ = some x2 ∧ ∀ i, w.frozen? ⟨g, i, none⟩ = false :=
  ⟨by rw [cell_of_row w g 0 _ t _ hg]; rfl, by rw [cell_of_row w g 1 _ t _ hg]; rfl, by rw [cell_of_row w g 2 _ t _ hg]; rfl, fun i => frozen_of_row w g i _ t hg⟩
theorem of_t (w : World) (v : Value) (bs : List UInt8) (h : Rd w v bs) (hl : bs.length ≤ 1048576) :
    Calls Try.prog 77 #[v] w fun e w' => ∃ q vb, e = .returned (.pointer (some ⟨q, 0, none⟩)) ∧ InAt w' q vb bs 0 ∧ New w w' ∧ w.heap.size ≤ q ∧ q < w'.heap.size := by
  have H := hid h
  clear h
  go_enter Try.func77, Try.ntmps77
  go_wp2_with fail
  refine (OutP.clone_t w v bs H.out.toP hl).mono ?_
  rintro e w1 ⟨r, rfl, ho, hc⟩
  obtain ⟨ra, rc, hr⟩ := (Rd.ofP (OutP.Rd.of_owns ho)).shape
  rw [List.length_map] at hr
  subst hr
  have HO := hid ho
  have HC := hid hc
  clear ho hc
  go_wp2_with fail
  go_ret
  refine ⟨_, _, rfl, ⟨heap_alloc_new w1 _, ?_, ?_, hl⟩, ?_, ?_, ?_⟩
  · exact (Rd.ofP (OutP.Rd.of_owns HO.out)).alloc _
  · intro g hg
    have := (HO.out.lt g hg).2; omega
  · exact (Chg.ofP HC.out).alloc _
  · exact HC.out.size
  · simp
theorem has_t (w : World) (q : Nat) (vb : Value) (bs : List UInt8) (a n : Nat) (h : InAt w q vb bs a) (hn : a + n ≤ 8 * bs.length) :
    Calls Try.prog 88 #[.pointer (some ⟨q, 0, none⟩), .int .i64 n] w fun e w' => e = .returned (.bool true) ∧ ∃ k, w' = w.drewN k := by
  obtain ⟨c0, c1, c2, cf⟩ := cells3 h.cells
  have hf := h.few
  obtain ⟨va, vc, hv, _⟩ := h.rd
  rw [List.length_map] at hv
  subst hv
  clear h
  go_enter Try.func88, Try.ntmps88
  have e1 : IntKind.i64.wrap (8 * (bs.length : Int)) = 8 * (bs.length : Int) := by rw [IntKind.wrap_i64]; omega
  have e2 : IntKind.i64.wrap (8 * (bs.length : Int) - a) = 8 * (bs.length : Int) - a := by rw [IntKind.wrap_i64]; omega
  have e3 : decide ((n : Int) > 8 * (bs.length : Int) - a) = false := decide_eq_false (by omega)
  have e4 : decide (8 * (bs.length : Int) - a < n) = false := decide_eq_false (by omega)
  go_wp2_with fail
  go_quiet (fail)
  go_wp2_with fail
  go_ret
  exact ⟨rfl, _, rfl⟩
/-- The bit at i; the number that k bits from a on are. -/
def bitN (bs : List UInt8) (i : Nat) : Nat := (bs.getD (i / 8) 0).toNat / 2 ^ (7 - i % 8) % 2
def inV (bs : List UInt8) (a : Nat) : Nat → Nat
  | 0 => 0
  | k + 1 => 2 * inV bs a k + bitN bs (a + k)
theorem bitN_lt (bs : List UInt8) (i : Nat) : bitN bs i < 2 := Nat.mod_lt _ (by decide)
theorem inV_lt (bs : List UInt8) (a : Nat) : ∀ k, inV bs a k < 2 ^ k
  | 0 => by simp [inV]
  | k + 1 => by have := inV_lt bs a k; have := bitN_lt bs (a + k); simp only [inV, Nat.pow_succ]; omega
theorem or_bit (v b : Nat) (hv : v < 9223372036854775808) (hb : b < 2) : bits .or .u64 ((v : Int) * 2) (b : Int) = ((2 * v + b : Nat) : Int) := by
  have := u64_or_nat (2 * v) b (by omega) (by omega)
  rw [show ((v : Int) * 2) = ((2 * v : Nat) : Int) by omega, this]
  congr 1
  have h2 : (2 * v) ||| b = 2 * v + b := by
    have := Nat.two_pow_add_eq_or_of_lt (i := 1) (b := b) (by omega) v
    simpa using this.symm
  exact h2
theorem shr_bit (u : UInt8) (kk : Nat) : bits .and .u8 ((u.toNat : Int) / 2 ^ kk) 1 = ((u.toNat / 2 ^ kk % 2 : Nat) : Int) := by
  have hu := u.toNat_lt
  have h1 : u.toNat / 2 ^ kk ≤ u.toNat := Nat.div_le_self _ _
  have := u8_and_nat (u.toNat / 2 ^ kk) 1 (by omega) (by omega)
  rw [Nat.and_one_is_mod] at this
  rw [← this]
  congr 1
theorem InAt.set {w : World} {q : Nat} {vb : Value} {bs : List UInt8} {a : Nat} (h : InAt w q vb bs a) (a' : Nat) (z : Int) (hz : z = a') : InAt (w.setCell ⟨q, 1, none⟩ (.int .i64 z)) q vb bs a' := by
  subst hz
  exact ⟨heap_setCell_same w q 1 _ 142 _ h.cells, h.rd.move fun g hg _ => heap_setCell_other _ _ _ _ (h.ne g hg), h.ne, h.few⟩
theorem InAt.drewN {w : World} {q : Nat} {vb : Value} {bs : List UInt8} {a : Nat} (h : InAt w q vb bs a) (k : Nat) : InAt (w.drewN k) q vb bs a := ⟨h.cells, h.rd, h.ne, h.few⟩
set_option maxHeartbeats 4000000 in
theorem inBits_t (w : World) (q : Nat) (vb : Value) (bs : List UInt8) (a n : Nat) (h : InAt w q vb bs a) (hn : a + n ≤ 8 * bs.length) (h1 : 1 ≤ n) (h2 : n ≤ 64) :
    Calls Try.prog 78 #[.pointer (some ⟨q, 0, none⟩), .int .i64 n] w fun e w' => e = .returned (.int .u64 (inV bs a n)) ∧ InAt w' q vb bs (a + n) ∧ Chg (fun k => k = q) w w' := by
  have H := hid h
  clear h
  go_enter Try.func78, Try.ntmps78
  go_wp2_with fail
  refine (has_t w q vb bs a n H.out hn).mono ?_
  rintro e w1 ⟨rfl, nd, rfl⟩
  have HC := hid (show Chg (fun k => k = q) w (w.drewN nd) from (Chg.refl _ w).drewN nd)
  have HI := hid (H.out.drewN nd)
  generalize w.drewN nd = w1 at *
  go_wp2_with fail
  go_loopw [5, 17] (fun v k wr => ∃ m : Nat, v = .int .u64 (inV bs a m) ∧ k = .int .i64 m ∧ m ≤ n ∧ InAt wr q vb bs (a + m) ∧ Chg (fun k => k = q) w wr) (fun _ k _ => n - (intOf k).toNat)
  case atStart => exact ⟨0, rfl, rfl, by omega, HI.out, HC.out⟩
  case round =>
    obtain ⟨W0, rfl⟩ : ∃ W0 : World, W0 = wr := ⟨_, rfl⟩
    obtain ⟨m, rfl, rfl, hm, hI, hC⟩ := hrel
    have C1 := hid hC
    have I1 := hid hI
    have HE := hid (show inV bs a (m + 1) = 2 * inV bs a m + bitN bs (a + m) from rfl)
    have HV := hid (inV_lt bs a m)
    clear hI hC
    obtain ⟨p, hp⟩ : ∃ p, p = a + m := ⟨_, rfl⟩
    rw [← hp] at I1 HE
    have hpn : p < 8 * bs.length ∨ n ≤ m := by omega
    have HP := hid hp
    clear hp
    by_cases hlt : m < n
    · have hpl : p < 8 * bs.length := by omega
      have hj : p / 8 < bs.length := by omega
      clear hpn
      obtain ⟨va, vc, rfl, _, _, hcell⟩ := I1.out.rd
      obtain ⟨g, off, rfl, hv⟩ := hcell (p / 8) (B bs[p / 8]) (by simp [hj])
      clear hcell
      have hu := bs[p / 8].toNat_lt
      have hbit : bitN bs p = bs[p / 8].toNat / 2 ^ (7 - p % 8) % 2 := by unfold bitN; rw [List.getD_eq_getElem?_getD, List.getElem?_eq_getElem hj]; rfl
      rw [List.length_map] at *
      obtain ⟨c0, c1, c2, cf⟩ := cells3 I1.out.cells
      generalize bs[p / 8] = u at *
      have HB := hid hbit
      clear hbit
      have hv1 : inV bs a m < 9223372036854775808 := Nat.lt_of_lt_of_le HV.out (by have := Nat.pow_le_pow_right (show 0 < 2 by decide) (show m ≤ 63 by omega); simpa using this)
      generalize inV bs a m = v at *
      have ed : (p : Int).tdiv 8 = ((p / 8 : Nat) : Int) := by rw [Int.tdiv_eq_ediv_of_nonneg (by omega)]; omega
      have em : (p : Int).tmod 8 = ((p % 8 : Nat) : Int) := by rw [Int.tmod_eq_emod_of_nonneg (by omega)]; omega
      have es : IntKind.i64.wrap (7 - ((p % 8 : Nat) : Int)) = ((7 - p % 8 : Nat) : Int) := by rw [IntKind.wrap_i64]; omega
      have hfew := I1.out.few
      have hk8 : 7 - p % 8 < 8 := by omega
      have hp1 : IntKind.i64.wrap ((p : Int) + 1) = ((p + 1 : Nat) : Int) := by rw [IntKind.wrap_i64]; omega
      have hm1 : IntKind.i64.wrap ((m : Int) + 1) = ((m + 1 : Nat) : Int) := by rw [IntKind.wrap_i64]; omega
      have ew : IntKind.i64.wrap ((p / 8 : Nat) : Int) = ((p / 8 : Nat) : Int) := by rw [IntKind.wrap_i64]; omega
      have er : IntKind.i64.wrap ((p % 8 : Nat) : Int) = ((p % 8 : Nat) : Int) := by rw [IntKind.wrap_i64]; omega
      have ev : IntKind.u64.wrap ((v : Int) * 2) = (v : Int) * 2 := by rw [IntKind.wrap_u64]; omega
      generalize p / 8 = jj at *
      generalize 7 - p % 8 = kk at *
      generalize p % 8 = rr at *
      have ea := shr_bit u kk
      have hb2 : u.toNat / 2 ^ kk % 2 < 2 := Nat.mod_lt _ (by decide)
      have eo := or_bit v (u.toNat / 2 ^ kk % 2) hv1 hb2
      have ewb : IntKind.u64.wrap ((u.toNat / 2 ^ kk % 2 : Nat) : Int) = ((u.toNat / 2 ^ kk % 2 : Nat) : Int) := by rw [IntKind.wrap_u64]; omega
      generalize u.toNat / 2 ^ kk % 2 = b at *
      go_wp2_with fail
      go_quiet (fail)
      go_wp2_with fail
      refine ⟨⟨m + 1, ?_, ?_, by omega, ?_, ?_⟩, by simp [intOf]; omega⟩
      · rw [HE.out, HB.out]; exact vi (by push_cast; rfl)
      · rfl
      · exact (I1.out.drewN _).set _ _ (by rw [HP.out]; push_cast; omega)
      · exact (C1.out.drewN _).setCell (fun _ => rfl) _
    · go_wp2_with fail
      go_ret
      obtain rfl : m = n := by omega
      exact ⟨rfl, HP.out ▸ I1.out, C1.out⟩
end Go.Proofs.Ytjlmbmamkhneiaa
