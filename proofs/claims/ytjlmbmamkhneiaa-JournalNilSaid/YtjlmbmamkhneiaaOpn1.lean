/- The walk of Open: too small a device; one that holds one record, or none. -/
import Derived.Test.YtjlmbmamkhneiaaRcs
import Derived.Test.YtjlmbmamkhneiaaGen
import Derived.Test.YtjlmbmamkhneiaaWip
namespace Go.Proofs.Ytjlmbmamkhneiaa
open Go Go.RowKit
set_option maxRecDepth 100000
theorem openSmall_t {S : Nat → Prop} (w : World) (d : Nat) (D : DevS) (hd : DevAt S w d D) (hdn : D.down = false) (hl : D.lasts.length < 4) :
    Calls Try.prog 35 #[.pointer (some ⟨d, 0, none⟩)] w fun e w' => e = .returned (.tuple #[.pointer none, .slice none 0 0, I 1]) ∧ w = w' := by
  have DN := hid (Down_t hd)
  rw [hdn] at DN
  have LN := hid (Len_d hd)
  generalize D.lasts.length = n at *
  clear hd
  go_enter Try.func35, Try.ntmps35
  go_wp2_with fail
  refine DN.out.mono ?_
  rintro e w1 ⟨rfl, rfl⟩
  go_wp2_with fail
  refine LN.out.mono ?_
  rintro e w1 ⟨rfl, rfl⟩
  go_wp2_with fail
  go_ret3
  exact ⟨rfl, rfl⟩
theorem JIs.setGen {w : World} {j d size gen term used many : Nat} (h : JIs w j d size gen term used many) (g : Nat) : JIs (w.setCell ⟨j, 2, none⟩ (.int .u32 g)) j d size g term used many := heap_setCell_same w j 2 _ 102 _ h
theorem JIs.setTerm {w : World} {j d size gen term used many : Nat} (h : JIs w j d size gen term used many) (t : Nat) (z : Int) (hz : z = t) : JIs (w.setCell ⟨j, 3, none⟩ (.int .u32 z)) j d size gen t used many := by
  subst hz; exact heap_setCell_same w j 3 _ 102 _ h
theorem maxT_none (m : Nat) : maxT (fun _ => none) m = 0 := by
  induction m with
  | zero => rfl
  | succ m ih => simp [maxT, ih, termOf]
theorem maxT_first (r : Option (Nat × Nat × Nat × List UInt8)) (m : Nat) (h : 0 < m) : maxT (fun k => if k = 0 then r else none) m = termOf r := by
  induction m with
  | zero => omega
  | succ m ih =>
    by_cases hm : m = 0
    · subst hm; simp [maxT]
    · simp [maxT, ih (by omega), hm, termOf]
def frameOf (r : Option (Nat × List UInt8)) : Option (Nat × Nat × Nat × List UInt8) := r.map fun x => (0, 0, x.1, x.2)
structure Bare (D : DevS) (size : Nat) (r : Option (Nat × List UInt8)) : Prop where
  dn : D.down = false
  fuse : D.fuse = 0
  sz : size = (D.lasts.length - 2) / 2
  len : 4 ≤ D.lasts.length
  heads : ∀ k, k < 2 → (D.block k).take 1 ≠ [79]
  bank0 : ∀ k, k < size → Begins ((bankL D 2 size).drop (64 * k)) (if k = 0 then frameOf r else none)
  bank1 : ∀ k, k < size → Begins ((bankL D (2 + size) size).drop (64 * k)) none
  rest : ∀ k, recN r ≤ k → k < size → D.block (2 + k) = blank
  few : ∀ t b, r = some (t, b) → b.length ≤ 45 ∧ t < 4294967295
  room : recN r < size
set_option maxHeartbeats 4000000 in
theorem open_t {S : Nat → Prop} (w : World) (d : Nat) (D : DevS) (hd : DevAt S w d D) (size : Nat) (r : Option (Nat × List UInt8)) (hB : Bare D size r) :
    Calls Try.prog 35 #[.pointer (some ⟨d, 0, none⟩)] w fun e w' => ∃ j v, e = .returned (.tuple #[.pointer (some ⟨j, 0, none⟩), v, I 0]) ∧ JIs w' j d size 0 (termOf (frameOf r) + 1) (recN r) (recN r) ∧ RecOut w.heap.size w' v r ∧ New w w' ∧ w.heap.size ≤ j := by
  have hmost := hd.okk.most
  have DN := hid (Down_t hd)
  rw [hB.dn] at DN
  have LN := hid (Len_d hd)
  have HB := hid hB
  have HD := hid hd
  have hlen := hB.len
  have hsz : (((D.lasts.length : Int) - 2).tdiv 2) = (size : Int) := by rw [Int.tdiv_eq_ediv_of_nonneg (by omega), hB.sz]; omega
  have hs2 : 2 + 2 * size ≤ D.lasts.length := by have := hB.sz; omega
  have hsub : IntKind.i64.wrap ((D.lasts.length : Int) - 2) = (D.lasts.length : Int) - 2 := by rw [IntKind.wrap_i64]; omega
  have hszw : IntKind.i64.wrap (size : Int) = (size : Int) := by rw [IntKind.wrap_i64]; omega
  have HS2 := hid hs2
  generalize hn : D.lasts.length = n at *
  have HN := hid hn
  clear hd hB hn
  go_enter Try.func35, Try.ntmps35
  go_wp2_with fail
  refine DN.out.mono ?_
  rintro e w1 ⟨rfl, rfl⟩
  go_wp2_with fail
  refine LN.out.mono ?_
  rintro e w1 ⟨rfl, rfl⟩
  go_wp2_with fail
  refine LN.out.mono ?_
  rintro e w1 ⟨rfl, rfl⟩
  go_wp2_with fail
  have J1 := hid (show JIs (w.alloc (.cells #[.pointer (some ⟨d, 0, none⟩), .int .i64 size, .int .u32 0, .int .u32 0, .int .i64 0, .int .i64 0, .bool false] 102)) w.heap.size d size 0 0 0 0 from heap_alloc_new w _)
  have C1 : Hid (New w (w.alloc (.cells #[.pointer (some ⟨d, 0, none⟩), .int .i64 size, .int .u32 0, .int .u32 0, .int .i64 0, .int .i64 0, .bool false] 102))) := hid ((Chg.refl _ w).alloc _)
  have JL := hid (show w.heap.size < (w.alloc (.cells #[.pointer (some ⟨d, 0, none⟩), .int .i64 size, .int .u32 0, .int .u32 0, .int .i64 0, .int .i64 0, .bool false] 102)).heap.size by simp)
  generalize w.alloc (.cells #[.pointer (some ⟨d, 0, none⟩), .int .i64 size, .int .u32 0, .int .u32 0, .int .i64 0, .int .i64 0, .bool false] 102) = w1 at *
  obtain ⟨j, hj⟩ : ∃ j, j = w.heap.size := ⟨_, rfl⟩
  rw [← hj] at J1 JL ⊢
  have HJ := hid hj
  have base0 : w.heap.size ≤ j := by omega
  have HB0 := hid base0
  clear hj base0
  refine (generation_t (S := S) w1 j d size 0 0 0 0 D J1.out (HD.out.new C1.out) HB.out.dn (by have := HN.out; omega) HB.out.heads).mono ?_
  rintro e w2 ⟨rfl, hn⟩
  have C2 := hid (C1.out.trans hn (fun _ _ e => e))
  have J2 := hid (J1.out.chg hn (fun e => e))
  clear hn
  obtain ⟨c0, c1, c2, c3, c4, c5, c6, cf⟩ := cells7 J2.out
  clear c0 c1 c3 c4 c5 c6
  go_wp2_with fail
  have J3 := hid (JIs.setGen J2.out 0)
  have C3 := hid (C2.out.setCell (p := ⟨j, 2, none⟩) (fun h => by have := HB0.out; simp at h; omega) (.int .u32 0))
  have hs4 : 2 + 2 * size ≤ D.lasts.length := by have := HN.out; omega
  have hok := HD.out.okk
  have BK0 : Hid (∀ w', JIs w' j d size 0 0 0 0 → New w w' → Calls Try.prog 64 #[.pointer (some ⟨j, 0, none⟩), .int .u32 0] w' fun e w'' => ∃ a c, e = .returned (.slice a (bankL D 2 size).length c) ∧ Rd w'' (.slice a (bankL D 2 size).length c) (bankL D 2 size) ∧ New w' w'') := hid fun w' h c => by
    refine (bank_t w' j d size 0 0 0 0 0 D h (HD.out.new c) HB.out.dn hs4 (by omega)).mono ?_
    rw [show 2 + 0 % 2 * size = 2 by omega]
    rintro e w'' ⟨v, rfl, ho, hn⟩
    obtain ⟨a, c, rfl, _⟩ := owns_shape ho
    exact ⟨a, c, rfl, Rd.ofB ho, hn⟩
  have BK1 : Hid (∀ w', JIs w' j d size 0 0 0 0 → New w w' → Calls Try.prog 64 #[.pointer (some ⟨j, 0, none⟩), .int .u32 1] w' fun e w'' => ∃ a c, e = .returned (.slice a (bankL D (2 + size) size).length c) ∧ Rd w'' (.slice a (bankL D (2 + size) size).length c) (bankL D (2 + size) size) ∧ New w' w'') := hid fun w' h c => by
    refine (bank_t w' j d size 0 0 0 0 1 D h (HD.out.new c) HB.out.dn hs4 (by omega)).mono ?_
    rw [show 2 + 1 % 2 * size = 2 + size by omega]
    rintro e w'' ⟨v, rfl, ho, hn⟩
    obtain ⟨a, c, rfl, _⟩ := owns_shape ho
    exact ⟨a, c, rfl, Rd.ofB ho, hn⟩
  have hl0 := bankL_len hok 2 size (by omega)
  have hl1 := bankL_len hok (2 + size) size (by omega)
  have hpos : 0 < size := by have := HB.out.room; omega
  have T0 : Hid (∀ w' a c, Rd w' (.slice a (bankL D 2 size).length c) (bankL D 2 size) → Calls Try.prog 63 #[.slice a (bankL D 2 size).length c] w' fun e w'' => e = .returned (.int .u32 (termOf (frameOf r))) ∧ New w' w'') := hid fun w' a c h => by
    have := terms_t w' _ _ h size hl0 (by omega) _ HB.out.bank0
    rw [maxT_first _ _ hpos] at this
    exact this
  have T1 : Hid (∀ w' a c, Rd w' (.slice a (bankL D (2 + size) size).length c) (bankL D (2 + size) size) → Calls Try.prog 63 #[.slice a (bankL D (2 + size) size).length c] w' fun e w'' => e = .returned (.int .u32 0) ∧ New w' w'') := hid fun w' a c h => by
    have := terms_t w' _ _ h size hl1 (by omega) _ HB.out.bank1
    rw [maxT_none] at this
    exact this
  have htl : termOf (frameOf r) < 4294967295 := by
    cases hr : r with
    | none => simp [frameOf, termOf]
    | some x => obtain ⟨t, b⟩ := x; exact (HB.out.few t b hr).2
  have RC : Hid (∀ w' t, JIs w' j d size 0 t 0 0 → New w w' → Calls Try.prog 65 #[.pointer (some ⟨j, 0, none⟩)] w' fun e w'' => ∃ v, e = .returned v ∧ RecOut w.heap.size w'' v r ∧ JIs w'' j d size 0 t (recN r) (recN r) ∧ Chg (fun k => k = j) w' w'') := hid fun w' t h c => by
    have b0 : ∀ k, k < size → Begins ((bankL D (2 + 0 % 2 * size) size).drop (64 * k)) (if k = 0 then frameOf r else none) := by rw [show 2 + 0 % 2 * size = 2 by omega]; exact HB.out.bank0
    refine (records_t w' j d size 0 t D h (HD.out.new c) HB.out.dn hs4 (by omega) r (b0 0 hpos) (fun t b hr => ⟨?_, (HB.out.few t b hr).1⟩) HB.out.room).mono ?_
    · have hr1 : recN r = 1 := by rw [hr]; rfl
      have := b0 1 (by have := HB.out.room; omega)
      exact this
    · rintro e w'' ⟨v, h1, h2, h3, h4⟩
      refine ⟨v, h1, ?_, h3, h4⟩
      match r, h2 with
      | none, h => exact h
      | some (_, b), ⟨ea, ec, sa, sc, h1, h2, h3⟩ => exact ⟨ea, ec, sa, sc, h1, owns_base h2 c.size, owns_base h3 c.size⟩
  have WP : Hid (∀ w' t, JIs w' j d size 0 t (recN r) (recN r) → New w w' → Calls Try.prog 66 #[.pointer (some ⟨j, 0, none⟩), .int .u32 0, .int .i64 (recN r)] w' fun e w'' => e = .returned (.int .i64 0) ∧ New w' w'') := hid fun w' t h c =>
    wipe_t w' j d size 0 t _ _ 0 (recN r) D h (HD.out.new c) HB.out.dn hs4 (by omega) (Nat.le_of_lt HB.out.room) (by rw [show 2 + 0 % 2 * size = 2 by omega]; exact HB.out.rest)
  generalize bankL D 2 size = bk0 at *
  generalize bankL D (2 + size) size = bk1 at *
  generalize hT : termOf (frameOf r) = t0 at *
  have HT := hid hT
  clear hT
  clear c2 cf hl0 hl1 hok
  generalize w2.setCell ⟨j, 2, none⟩ (.int .u32 0) = w3 at *
  refine (BK0.out w3 J3.out C3.out).mono ?_
  rintro e w4 ⟨a0, ac0, rfl, hr0, hn⟩
  have C4 := hid (C3.out.trans hn (fun _ _ e => e))
  have J4 := hid (J3.out.chg hn (fun e => e))
  have R4 := hid hr0
  clear hn hr0
  go_wp2_with fail
  refine (T0.out w4 _ _ R4.out).mono ?_
  rintro e w5 ⟨rfl, hn⟩
  have C5 := hid (C4.out.trans hn (fun _ _ e => e))
  have J5 := hid (J4.out.chg hn (fun e => e))
  clear hn
  go_wp2_with fail
  refine (BK1.out w5 J5.out C5.out).mono ?_
  rintro e w6 ⟨a1, ac1, rfl, hr1, hn⟩
  have C6 := hid (C5.out.trans hn (fun _ _ e => e))
  have J6 := hid (J5.out.chg hn (fun e => e))
  have R6 := hid hr1
  clear hn hr1
  go_wp2_with fail
  refine (T1.out w6 _ _ R6.out).mono ?_
  rintro e w7 ⟨rfl, hn⟩
  have C7 := hid (C6.out.trans hn (fun _ _ e => e))
  have J7 := hid (J6.out.chg hn (fun e => e))
  clear hn
  obtain ⟨c0, c1, c2, c3, c4, c5, c6, cf⟩ := cells7 J7.out
  clear c0 c1 c2 c4 c5 c6
  have ht1 : IntKind.u32.wrap ((t0 : Int) + 1) = (t0 : Int) + 1 := by rw [IntKind.wrap_u32]; omega
  have hti : decide ((t0 : Int) < 4294967295) = true := decide_eq_true (by omega)
  have hmx : max (t0 : Int) 0 = t0 := by omega
  have HTL := hid htl
  clear htl
  go_wp2_with fail
  have J8 := hid (JIs.setTerm (JIs.setTerm J7.out t0 (t0 : Int) rfl) (t0 + 1) ((t0 : Int) + 1) (by omega))
  have C8 := hid ((C7.out.setCell (p := ⟨j, 3, none⟩) (fun h => by have := HB0.out; simp at h; omega) (.int .u32 (t0 : Int))).setCell (p := ⟨j, 3, none⟩) (fun h => by have := HB0.out; simp at h; omega) (.int .u32 ((t0 : Int) + 1)))
  refine (RC.out _ (t0 + 1) J8.out C8.out).mono ?_
  rintro e w9 ⟨v, rfl, hv, hj9, hc⟩
  have C9 := hid (C8.out.trans hc (fun i hi e => by have := HB0.out; omega))
  have V9 := hid hv
  have J9 := hid hj9
  clear hv hj9 hc c3 cf
  have JD := hid (show JIs w9.drew j d size 0 (t0 + 1) (recN r) (recN r) from J9.out)
  have CD := hid (show New w w9.drew from C9.out.drewN 1)
  obtain ⟨c0, c1, c2, c3, c4, c5, c6, cf⟩ := cells7 J9.out
  have VD := hid (V9.out.chg ((Chg.refl (fun _ => False) w9).drewN 1) (fun _ e => e.elim))
  clear c0 c1 c3 c5 c6 cf
  go_wp2_with fail
  go_region_held3 (fun w' => w'.cell? ⟨j, 2, none⟩ = some (.int .u32 (0 : Nat)) ∧ w'.cell? ⟨j, 4, none⟩ = some (I (recN r)))
    (first | exact ⟨(cells7 JD.out).2.2.1, (cells7 JD.out).2.2.2.2.1⟩ | exact ⟨(cells7 J10.out).2.2.1, (cells7 J10.out).2.2.2.2.1⟩)
    (first
      | (go_at_call 66; refine (WP.out _ (t0 + 1) JD.out CD.out).mono ?_; rintro e w10 ⟨rfl, hn⟩; have J10 := hid (JD.out.chg hn (fun e => e)); have N10 := hid hn; clear hn))
  go_wp2_with fail
  go_ret3
  exact ⟨j, v, rfl, by rw [HT.out]; exact J10.out, VD.out.chg N10.out (fun _ e => e.elim), CD.out.trans N10.out (fun _ _ e => e), HB0.out⟩
end Go.Proofs.Ytjlmbmamkhneiaa
