/- The walk of Journal.records where the bank holds one record, or none. -/
import Derived.Test.YtjlmbmamkhneiaaAppd
namespace Go.Proofs.Ytjlmbmamkhneiaa
open Go Go.RowKit
set_option maxRecDepth 100000
theorem info22j : (Try.prog.info? 22).map (fun i => (i.zero, i.size, i.bytes)) = some (some (.slice none 0 0), 1, 24) := by kernel_rfl
theorem T23j : SliceTy Try.prog 23 22 (.slice none 0 0) 24 := ⟨Try.underlying23, info_parts info22j⟩
def recN : Option (Nat × List UInt8) → Nat
  | none => 0
  | some _ => 1
def RecOut (base : Nat) (w : World) (v : Value) : Option (Nat × List UInt8) → Prop
  | none => v = .slice none 0 0
  | some (_, b) => ∃ ea ec sa sc, v = .slice ea 1 ec ∧ w.ownsRow base 22 1 (.slice ea 1 ec) 1 [.slice sa b.length sc] ∧ w.ownsRow base 5 1 (.slice sa b.length sc) b.length (b.map B)
theorem RecOut.chg {S : Nat → Prop} {base : Nat} {w w' : World} {v : Value} {r : Option (Nat × List UInt8)} (h : RecOut base w v r) (c : Chg S w w') (hn : ∀ k, S k → k < base) : RecOut base w' v r := by
  match r, h with
  | none, h => exact h
  | some (_, b), ⟨ea, ec, sa, sc, h1, h2, h3⟩ => exact ⟨ea, ec, sa, sc, h1, own_chg h2 c hn, own_chg h3 c hn⟩
theorem rdV_new1 (w : World) (v : Value) (t : TypeId) (g : Nat) (hg : g = w.heap.size) : RdV (w.alloc (.cells #[v] t)) (.slice (some ⟨g, 0, none⟩) 1 1) [v] := by
  subst hg
  exact ⟨_, 1, rfl, Nat.le_refl _, by simp [maxLen], fun j u hu => ⟨w.heap.size, 0, rfl, by rw [cell_of_row _ _ _ _ _ _ (heap_alloc_new w _), Nat.zero_add]; simpa using hu⟩⟩
set_option maxHeartbeats 4000000 in
theorem records_t {S : Nat → Prop} (w : World) (j d size gen term : Nat) (D : DevS) (h : JIs w j d size gen term 0 0) (hd : DevAt S w d D) (hdn : D.down = false) (hs : 2 + 2 * size ≤ D.lasts.length) (hg : gen < 4294967296)
    (r : Option (Nat × List UInt8)) (h0 : Begins (bankL D (2 + gen % 2 * size) size) (r.map fun x => (gen, 0, x.1, x.2))) (h1 : ∀ t b, r = some (t, b) → Begins ((bankL D (2 + gen % 2 * size) size).drop 64) none ∧ b.length ≤ 45) (hsz : recN r < size) :
    Calls Try.prog 65 #[.pointer (some ⟨j, 0, none⟩)] w fun e w' => ∃ v, e = .returned v ∧ RecOut w.heap.size w' v r ∧ JIs w' j d size gen term (recN r) (recN r) ∧ Chg (fun k => k = j) w w' := by
  have hok := hd.okk
  have hmost := hok.most
  have hfst : 2 + gen % 2 * size + size ≤ D.lasts.length := by
    have : gen % 2 = 0 ∨ gen % 2 = 1 := by omega
    rcases this with e | e <;> rw [e] <;> omega
  have hlen := bankL_len hok (2 + gen % 2 * size) size hfst
  have BK := hid (bank_t w j d size gen term 0 0 gen D h hd hdn hs hg)
  generalize bankL D (2 + gen % 2 * size) size = bk at *
  have HJ := hid h
  have H0 := hid h0
  have H1 := hid h1
  have HL := hid hlen
  have jlt := hid (lt_of_block h)
  obtain ⟨c0, c1, c2, c3, c4, c5, c6, cf⟩ := cells7 h
  have hbl : bk.length ≤ 1048576 := by omega
  clear h h0 h1 hd hlen c0 c1 c3 c4 c5 c6 cf
  go_enter Try.func65, Try.ntmps65
  go_wp2_with fail
  refine BK.out.mono ?_
  rintro e w1 ⟨vb, rfl, ho, hn⟩
  obtain ⟨ba, bc, rfl, hbc, _⟩ := owns_shape ho
  have O1 := hid ho
  have C1 := hid (show Chg (fun k => k = j) w w1 from hn.mono fun _ _ e => e.elim)
  have J1 := hid (HJ.out.chg hn (fun e => e))
  clear ho hn c2 BK
  go_wp2_with fail
  go_loopw [4, 5] (fun v l wr => ∃ s : Nat, JIs wr j d size gen term s s ∧ Chg (fun k => k = j) w wr ∧ wr.ownsRow w.heap.size 5 1 (.slice ba bk.length bc) bk.length (bk.map B) ∧ ((s = 0 ∧ v = .slice none 0 0 ∧ l = .int .u32 0) ∨ (s = 1 ∧ ∃ t b, r = some (t, b) ∧ RecOut w.heap.size wr v r ∧ l = .int .u32 t))) (fun v _ _ => match v with | .slice _ n _ => 2 - n | _ => 0)
  case atStart => exact ⟨0, J1.out, C1.out, O1.out, .inl ⟨rfl, rfl, rfl⟩⟩
  case round =>
    obtain ⟨W0, rfl⟩ : ∃ W0 : World, W0 = wr := ⟨_, rfl⟩
    obtain ⟨s, hJ, hC, hO, hst⟩ := hrel
    have J2 := hid hJ
    have C2 := hid hC
    have O2 := hid hO
    obtain ⟨c0, c1, c2, c3, c4, c5, c6, cf⟩ := cells7 hJ
    clear hJ hC hO c0 c1 c3 c6
    rcases hst with ⟨rfl, rfl, rfl⟩ | ⟨rfl, t, b, rfl, hrec, rfl⟩
    · have R2 := hid (show Rd W0 (.slice ba bk.length bc) bk from Rd.ofB O2.out)
      cases r with
      | none =>
        go_wp2_with fail
        refine (parse_t W0 _ bk R2.out hbl none H0.out).mono ?_
        rintro e w3 ⟨hn, rfl⟩
        go_wp2_with fail
        go_quiet (fail)
        go_wp2_with fail
        go_ret
        exact ⟨_, rfl, rfl, J2.out.chg ((hn.alloc _).drewN _) (fun e => e), (((C2.out.trans hn (fun _ _ e => e.elim)).alloc _).drewN _)⟩
      | some tb =>
        obtain ⟨t, b⟩ := tb
        have hb0 := H0.out
        have ht32 : t < 4294967296 := hb0.2.2.2
        have hb45 := (H1.out t b rfl).2
        have HN : Hid (∀ w, Calls Try.prog 32 #[I b.length] w fun e w' => e = .returned (I 1) ∧ w = w') := hid fun w => by
          have := need_t b.length w
          rw [needZ_nat _ (by omega), show (b.length + 82) / 64 = 1 by omega] at this
          exact this
        go_wp2_with fail
        refine (parse_t W0 _ bk R2.out hbl (some (gen, 0, t, b)) H0.out).mono ?_
        rintro e w3 ⟨hn, sa, sc, rfl, ho⟩
        have C3 := hid (C2.out.trans hn (fun _ _ e => e.elim))
        have J3 := hid (J2.out.chg hn (fun e => e))
        have O3 := hid (own_chg O2.out hn (fun _ e => e.elim))
        have S3 := hid (owns_base ho C2.out.size)
        clear hn ho c2 c4 c5 cf
        go_wp2_with fail
        have F4 := hid (heap_alloc_new w3 (.cells #[.int .u32 gen, .int .u32 0, .int .u32 t, .slice sa b.length sc] 111))
        have N4 : New w3 (w3.alloc (.cells #[.int .u32 gen, .int .u32 0, .int .u32 t, .slice sa b.length sc] 111)) := (Chg.refl _ w3).alloc _
        have C4 := hid (C3.out.alloc (.cells #[.int .u32 gen, .int .u32 0, .int .u32 t, .slice sa b.length sc] 111))
        have J4 := hid (J3.out.chg N4 (fun e => e))
        have O4 := hid (own_chg O3.out N4 (fun _ e => e.elim))
        have S4 := hid (own_chg S3.out N4 (fun _ e => e.elim))
        have hfj : w3.heap.size ≠ j := fun e => by have := jlt.out; have := C3.out.size; omega
        have hfw := hid C3.out.size
        clear C3 J3 O3 S3 N4
        generalize w3.alloc (.cells #[.int .u32 gen, .int .u32 0, .int .u32 t, .slice sa b.length sc] 111) = w4 at *
        generalize w3.heap.size = f at *
        obtain ⟨f0, f1, f2, f3⟩ := OutP.cells4 F4.out
        obtain ⟨c0, c1, c2, c3, c4, c5, c6, cf⟩ := cells7 J4.out
        clear c0 c1 c3 c6
        go_quiet (fail)
        go_wp2_with fail
        have C5 := hid (C4.out.drewN nq)
        have J5 := hid (show JIs (w4.drewN nq) j d size gen term 0 0 from J4.out)
        have O5 := hid (show (w4.drewN nq).ownsRow w.heap.size 5 1 (.slice ba bk.length bc) bk.length (bk.map B) from O4.out)
        have S5 := hid (show (w4.drewN nq).ownsRow w.heap.size 5 1 (.slice sa b.length sc) b.length (b.map B) from S4.out)
        have F5 := hid (show (w4.drewN nq).heap[f]? = _ from F4.out)
        clear f0 f1 f2 f3 c2 c4 c5 cf C4 J4 O4 S4 F4
        generalize w4.drewN nq = w5 at *
        obtain ⟨f0, f1, f2, f3⟩ := OutP.cells4 F5.out
        obtain ⟨c0, c1, c2, c3, c4, c5, c6, cf⟩ := cells7 J5.out
        clear f0 f1 f2 c0 c1 c2 c3 c5 c6
        go_region_with (first | (go_at_call 32; refine (HN.out _).mono ?_; rintro e w6 ⟨rfl, rfl⟩))
        all_goals
          have J6 := hid (JIs.used J5.out (IntKind.i64.wrap 1) 1 rfl)
          have N6 : Chg (fun k => k = j) w5 (w5.setCell ⟨j, 4, none⟩ (.int .i64 (IntKind.i64.wrap 1))).drew := ((Chg.refl (fun k => k = j) w5).setCell (p := ⟨j, 4, none⟩) (fun _ => rfl) _).drewN 1
          have C6 := hid (C5.out.trans N6 (fun _ _ e => e))
          have O6 := hid (own_chg O5.out N6 (fun _ e => e ▸ jlt.out))
          have S6 := hid (own_chg S5.out N6 (fun _ e => e ▸ jlt.out))
          have F6 := hid ((N6.block f (lt_of_block F5.out) hfj).trans F5.out)
          clear N6 f3 c4 cf C5 J5 O5 S5
          generalize (w5.setCell ⟨j, 4, none⟩ (.int .i64 (IntKind.i64.wrap 1))).drew = w6 at *
          obtain ⟨c0, c1, c2, c3, c4, c5, c6, cf⟩ := cells7 J6.out
          obtain ⟨f0, f1, f2, f3⟩ := OutP.cells4 F6.out
          clear c0 c1 c2 c3 c4 c6 f0 f1 f2
          have N7 : Chg (fun k => k = j) w6 (w6.setCell ⟨j, 5, none⟩ (.int .i64 1)) := (Chg.refl (fun k => k = j) w6).setCell (p := ⟨j, 5, none⟩) (fun _ => rfl) _
          have J7 := hid (JIs.many J6.out 1 1 rfl)
          have C7 := hid (C6.out.trans N7 (fun _ _ e => e))
          have O7 := hid (own_chg O6.out N7 (fun _ e => e ▸ jlt.out))
          have S7 := hid (own_chg S6.out N7 (fun _ e => e ▸ jlt.out))
          have hjf : ¬ j = f := fun e => hfj e.symm
          clear N7
          go_wp2_with (at_builtin; refine wpl_append rfl _ _ 23 rfl T23j rfl w.heap.size _ [] rfl (World.ownsRow_nil _ _ _ _) _ rfl [.slice sa b.length sc] (rdV_new1 _ _ _ _ (by simp)) ?one ?c1 ?c2 ?c3 ?c4)
          case one => simp [Value.oneCell']
          case c1 => simp
          case c2 => simp [maxLen]
          case c3 => have := C7.out.size; simp only [World.size_alloc]; omega
          case c4 =>
            intro v' w8 hown hg
            have hg8 := ((Chg.refl (fun _ => False) (w6.setCell ⟨j, 5, none⟩ (.int .i64 1))).alloc (.cells #[.slice sa b.length sc] 22)).grown hg (fun k hk => by simp [Value.ownBlock] at hk)
            obtain ⟨ea, ec, rfl, _⟩ := owns_shape hown
            have E8 := hid hown
            have C8 := hid (C7.out.trans hg8 (fun _ _ e => e.elim))
            have J8 := hid (J7.out.chg hg8 (fun e => e))
            have O8 := hid (own_chg O7.out hg8 (fun _ e => e.elim))
            have S8 := hid (own_chg S7.out hg8 (fun _ e => e.elim))
            clear hown hg hg8
            go_wp2_with fail
            exact ⟨⟨1, J8.out, C8.out, O8.out, .inr ⟨rfl, t, b, rfl, ⟨ea, ec, sa, sc, rfl, E8.out, S8.out⟩, rfl⟩⟩, (show 2 - 1 < 2 - 0 by omega)⟩
    · have hb1 := (H1.out t b rfl).1
      have hw : IntKind.i64.wrap 64 = 64 := rfl
      have hlb : 64 < bk.length := by have := HL.out; simp only [recN] at hsz; omega
      have R2 := hid ((show Rd W0 (.slice ba bk.length bc) bk from Rd.ofB O2.out).drop 64 (by omega))
      have HB1 := hid hb1
      have HREC := hid hrec
      have hcap : 64 < bc := by omega
      have hcapI : (64 : Int) ≤ (bc : Int) := by omega
      clear hb1 hrec
      go_wp2_with fail
      refine (parse_t W0 _ (bk.drop 64) R2.out (by rw [List.length_drop]; omega) none HB1.out).mono ?_
      rintro e w3 ⟨hn, rfl⟩
      go_wp2_with fail
      go_quiet (fail)
      go_wp2_with fail
      go_ret
      exact ⟨_, rfl, HREC.out.chg ((hn.alloc _).drewN _) (fun _ e => e.elim), J2.out.chg ((hn.alloc _).drewN _) (fun e => e), (((C2.out.trans hn (fun _ _ e => e.elim)).alloc _).drewN _)⟩
end Go.Proofs.Ytjlmbmamkhneiaa
