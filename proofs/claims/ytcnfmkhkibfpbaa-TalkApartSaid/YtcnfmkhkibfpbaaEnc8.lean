/- The walk of Encode at any message that may be. -/
import Derived.Test.YtcnfmkhkibfpbaaMay8
import Derived.Test.YtcnfmkhkibfpbaaEnc7
namespace Go.Proofs.Ytcnfmkhkibfpbaa
open Go Go.RowKit
set_option linter.unusedVariables false
def pc (b : Bool) (l : List UInt8) : List UInt8 := if b = true then l else []
theorem pc_le (b : Bool) (l : List UInt8) : (pc b l).length ≤ l.length := by unfold pc; split <;> simp
/-- The bytes of a message of these fields. -/
def encF (bx bm bi bt bu bn bg bw : Bool) (kn xn mcn inn tn : Nat) (s : ByteArray) (nn gn yn : Nat) : List UInt8 :=
  be 2 20307 ++ be 1 kn ++ pc bx (be 4 xn) ++ pc bm (be 6 mcn) ++ pc bi (be 4 inn) ++ pc bt (be 5 tn) ++ pc bu (be 1 s.size ++ s.data.toList) ++ pc bn (be 8 nn) ++ pc bg (be 8 gn) ++ pc bw (be 1 yn)
/-- In the midst of Encode: so many bytes are written. -/
structure EI (w3 wx : World) (base N : Nat) (bs : List UInt8) : Prop where
  out : ∃ v, OutAt wx base base v bs (8 * bs.length)
  lo : base ≤ wx.heap.size
  bel : Below base w3 wx
  len : bs.length ≤ N
theorem EI.none {w3 wx : World} {base N N' : Nat} {bs : List UInt8} (h : EI w3 wx base N bs) (hN : N ≤ N') (l : List UInt8) : EI w3 wx base N' (bs ++ pc false l) := by
  have e : bs ++ pc false l = bs := by simp [pc]
  rw [e]; exact ⟨h.out, h.lo, h.bel, Nat.le_trans h.len hN⟩
theorem EI.some {w3 wx w5 : World} {base N N' : Nat} {v v5 : Value} {bs l : List UInt8} (h : EI w3 wx base N bs) (hv : OutAt wx base base v bs (8 * bs.length)) (o : Obj) (ho : OutAt w5 base base v5 (bs ++ l) (8 * (bs ++ l).length)) (hk : Kept (wx.alloc o) base v w5 v5) (hN : N + l.length ≤ N') :
    EI w3 w5 base N' (bs ++ pc true l) := by
  have e : bs ++ pc true l = bs ++ l := by simp [pc]
  rw [e]
  refine ⟨⟨v5, ho⟩, Nat.le_trans (by have := h.lo; simp; omega) hk.1.size, kept_below (h.bel.alloc h.lo o) (hv.alloc o) hk, ?_⟩
  rw [List.length_append]
  have := h.len
  omega
theorem bits_of (w : World) (base : Nat) (v : Value) (bs : List UInt8) (h : OutAt w base base v bs (8 * bs.length)) (hbase : base ≤ w.heap.size) (m : Nat) (hm1 : 1 ≤ m) (hm8 : m ≤ 8) (u : Nat) (hu : u < 18446744073709551616) (hroom : bs.length + m ≤ 65536) (z q : Int) (hz : z = (8 * m : Nat)) (hq : q = u) :
    Calls Try.prog 37 #[.pointer (some ⟨base, 0, none⟩), .int .i64 z, .slice (some ⟨w.heap.size, 0, none⟩) 1 1] (w.alloc (.cells #[.int .u64 q] 32)) fun e w' => e = .returned (.int .i64 0) ∧ ∃ v', OutAt w' base base v' (bs ++ be m u) (8 * (bs ++ be m u).length) ∧ Kept (w.alloc (.cells #[.int .u64 q] 32)) base v w' v' := by
  subst hz; subst hq
  exact bits1_t w base base v bs h hbase m hm1 hm8 u hu hroom
set_option maxRecDepth 100000 in
set_option maxHeartbeats 16000000 in
theorem encode_t (kn xn mcn inn tn : Nat) (s : ByteArray) (nn gn yn : Nat) (h : MayOk ⟨kn, xn, mcn, inn, tn, s, nn, gn, yn⟩) (hx : xn < 4294967296) (hi : inn < 4294967296) (hn : nn < 18446744073709551616) (hg : gn < 18446744073709551616) (w : World) :
    Calls Try.prog 22 #[.agg (msgV ⟨kn, xn, mcn, inn, tn, s, nn, gn, yn⟩)] w fun e w' => ∃ r, e = .returned (.tuple #[r, .int .i64 0]) ∧
      Rd w' r (encF (hasB kn 120) (hasB kn 109) (hasB kn 105) (hasB kn 116) (hasB kn 117) (hasB kn 110) (hasB kn 103) (hasB kn 119) kn xn mcn inn tn s nn gn yn) ∧ New w w' := by
  have MO := hid (fun w => may_ok h w)
  have FL := hid (fun w => fields_t kn h.k1 h.k2 w)
  have h1 := h.k1
  have h2 := h.k2
  have m1 := h.m1
  have t1 := h.t1
  have w1' := h.w1
  have hsz := h.short
  unfold flagsV at FL
  unfold msgV at MO ⊢
  dsimp only at *
  generalize hasB kn 120 = bx at *
  generalize hasB kn 109 = bm at *
  generalize hasB kn 105 = bi at *
  generalize hasB kn 116 = bt at *
  generalize hasB kn 117 = bu at *
  generalize hasB kn 110 = bn at *
  generalize hasB kn 103 = bg at *
  generalize hasB kn 119 = bw at *
  clear h
  have q1 : kn < 256 := by omega
  have q2 : mcn < 281474976710656 := by omega
  have q3 : tn < 1099511627776 := by omega
  have q4 : yn < 256 := by omega
  obtain ⟨E, hE⟩ : ∃ E, encF bx bm bi bt bu bn bg bw kn xn mcn inn tn s nn gn yn = E := ⟨_, rfl⟩
  rw [hE]
  have HE0 := hid hE
  clear hE
  go_enter Try.func22, Try.ntmps22
  go_wp2_with fail
  refine (MO.out _).mono ?_
  rintro e w1 ⟨rfl, hc⟩
  have HB1 := hid ((hc.block w.heap.size (by simp) (fun e => e)).trans (heap_alloc_new w _))
  have HC1 := hid (((Chg.refl (fun _ => False) w).alloc _).trans hc (fun _ _ e => e))
  have HS1 := hid (show w.heap.size < w1.heap.size by have := hc.size; simp at this; omega)
  clear hc
  obtain ⟨c0, c1, c2, c3, c4, c5, c6, c7, c8, cf⟩ := cells9 HB1.out
  generalize hk : w.heap.size = k at *
  have HK := hid hk
  clear hk
  go_wp2_with fail
  refine (FL.out _).mono ?_
  rintro e w2 ⟨rfl, hc⟩
  have HB2 := hid ((hc.block k HS1.out (fun e => e)).trans HB1.out)
  have HC2 := hid (HC1.out.trans hc (fun _ _ e => e))
  have HS2 := hid (Nat.lt_of_lt_of_le HS1.out hc.size)
  clear hc c0 c1 c2 c3 c4 c5 c6 c7 c8 cf
  go_wp2_with fail
  have hf3 := heap_alloc_new w2 (.cells #[.bool bx, .bool bm, .bool bi, .bool bt, .bool bu, .bool bn, .bool bg, .bool bw] 69)
  have hb3 := (Below.heap_alloc w2 (.cells #[.bool bx, .bool bm, .bool bi, .bool bt, .bool bu, .bool bn, .bool bg, .bool bw] 69) k HS2.out).trans HB2.out
  have hc3 := HC2.out.alloc (.cells #[.bool bx, .bool bm, .bool bi, .bool bt, .bool bu, .bool bn, .bool bg, .bool bw] 69)
  have hz3 := World.size_alloc w2 (.cells #[.bool bx, .bool bm, .bool bi, .bool bt, .bool bu, .bool bn, .bool bg, .bool bw] 69)
  generalize w2.alloc (.cells #[.bool bx, .bool bm, .bool bi, .bool bt, .bool bu, .bool bn, .bool bg, .bool bw] 69) = w3 at *
  have HS2' := HS2.out
  generalize hj : w2.heap.size = j at *
  clear hj
  have HF3 := hid hf3
  have HB3 := hid hb3
  have HC3 := hid hc3
  clear hf3 hb3 hc3
  refine (new_t w3 w3.heap.size (Nat.le_refl _)).mono ?_
  rintro e w4 ⟨rfl, ho, hc⟩
  have HL4 := hid hc.size
  have HE4 := hid (show Below w3.heap.size w3 w4 from ⟨hc.os, hc.tape, hc.output, hc.size, fun i hi => hc.block i hi (fun e => e)⟩)
  generalize hbs : w3.heap.size = base at *
  have HBS := hid hbs
  have H4 := hid ho
  have HKB : Hid (k < base) := hid (by omega)
  have HJB : Hid (j < base) := hid (by omega)
  obtain ⟨c0, c1, c2, c3, c4, c5, c6, c7, c8, cf⟩ := cells9 ((HE4.out.block k HKB.out).trans HB3.out)
  obtain ⟨d0, d1, d2, d3, d4, d5, d6, d7, df⟩ := cells8 ((HE4.out.block j HJB.out).trans HF3.out)
  clear ho hc hbs HS2' hz3
  have I0 := hid (show EI w3 w4 base 0 ([] : List UInt8) from ⟨⟨_, H4.out⟩, HL4.out, HE4.out, Nat.le_refl _⟩)
  go_wp2_with fail
  refine (bits_of w4 base (.slice none 0 0) [] H4.out HL4.out 2 (by decide) (by decide) 20307 (by decide) (by decide) 16 20307 rfl rfl).mono ?_
  clear c0 c1 c2 c3 c4 c5 c6 c7 c8 cf d0 d1 d2 d3 d4 d5 d6 d7 df
  rintro e w5 ⟨rfl, v5, ho, hk⟩
  have I1 := hid (I0.out.some (N' := 2) H4.out _ ho hk (by simp [be_len]))
  have H5 := hid ho
  obtain ⟨c0, c1, c2, c3, c4, c5, c6, c7, c8, cf⟩ := cells9 ((I1.out.bel.block k HKB.out).trans HB3.out)
  clear ho hk
  have hcv0 : IntKind.u64.wrap (kn : Int) = kn := by rw [IntKind.wrap_u64]; omega
  go_wp2_with fail
  refine (bits_of w5 base v5 _ H5.out I1.out.lo 1 (by decide) (by decide) kn (by omega) (by rw [List.length_append, be_len]; decide) 8 _ rfl (by first | rfl | exact hcv0)).mono ?_
  clear c0 c1 c2 c3 c4 c5 c6 c7 c8 cf
  rintro e w6 ⟨rfl, v6, ho, hk⟩
  have I2 := hid (show EI w3 w6 base 3 (be 2 20307 ++ be 1 kn) from by
    have h := (show EI w3 w5 base 2 ([] ++ be 2 20307) from by have := I1.out; simpa [pc] using this).some (N' := 3) H5.out _ ho hk (by simp [be_len])
    simpa [pc] using h)
  clear ho hk hcv0
  obtain ⟨wc, hwc⟩ : ∃ wc : World, wc = w6 := ⟨_, rfl⟩
  subst hwc
  have hcut := I2.out
  have J0 := hid hcut
  clear hcut
  obtain ⟨c0, c1, c2, c3, c4, c5, c6, c7, c8, cf⟩ := cells9 ((J0.out.bel.block k HKB.out).trans HB3.out)
  obtain ⟨d0, d1, d2, d3, d4, d5, d6, d7, df⟩ := cells8 ((J0.out.bel.block j HJB.out).trans HF3.out)
  go_upto_if 23 with fail
  go_cut [24] from 24 to 29 (fun s24 wx => EI w3 wx base 7 (be 2 20307 ++ be 1 kn ++ pc bx (be 4 xn)))
  case first =>
    have JL := J0.out.len
    generalize be 2 20307 ++ be 1 kn = bs0 at *
    cases bx
    · go_wp2_with fail
      go_meet
      exact J0.out.none (by decide) _
    · obtain ⟨v, hv⟩ := J0.out.out
      have HV := hid hv
      clear hv
      have hcv : IntKind.u64.wrap (xn : Int) = xn := by rw [IntKind.wrap_u64]; omega
      go_wp2_with fail
      refine (bits_of wc base v _ HV.out J0.out.lo 4 (by decide) (by decide) xn (by omega) (by omega) 32 _ rfl (by first | rfl | exact hcv)).mono ?_
      rintro e w7 ⟨rfl, v7, ho, hk⟩
      have IN := hid (J0.out.some (N' := 7) HV.out _ ho hk (by rw [be_len]; decide))
      clear ho hk
      go_wp2_with fail
      go_meet
      exact IN.out
  case rest =>
    clear c0 c1 c2 c3 c4 c5 c6 c7 c8 cf d0 d1 d2 d3 d4 d5 d6 d7 df
    have J1 := hid hcut
    clear hcut
    obtain ⟨c0, c1, c2, c3, c4, c5, c6, c7, c8, cf⟩ := cells9 ((J1.out.bel.block k HKB.out).trans HB3.out)
    obtain ⟨d0, d1, d2, d3, d4, d5, d6, d7, df⟩ := cells8 ((J1.out.bel.block j HJB.out).trans HF3.out)
    go_upto_if 31 with fail
    go_cut [32] from 32 to 36 (fun s32 wx => EI w3 wx base 13 (be 2 20307 ++ be 1 kn ++ pc bx (be 4 xn) ++ pc bm (be 6 mcn)))
    case first =>
      have JL := J1.out.len
      generalize be 2 20307 ++ be 1 kn ++ pc bx (be 4 xn) = bs0 at *
      cases bm
      · go_wp2_with fail
        go_meet
        exact J1.out.none (by decide) _
      · obtain ⟨v, hv⟩ := J1.out.out
        have HV := hid hv
        clear hv
        have hcv : IntKind.u64.wrap (mcn : Int) = mcn := by rw [IntKind.wrap_u64]; omega
        go_wp2_with fail
        refine (bits_of wc base v _ HV.out J1.out.lo 6 (by decide) (by decide) mcn (by omega) (by omega) 48 _ rfl (by first | rfl | exact hcv)).mono ?_
        rintro e w7 ⟨rfl, v7, ho, hk⟩
        have IN := hid (J1.out.some (N' := 13) HV.out _ ho hk (by rw [be_len]; decide))
        clear ho hk
        go_wp2_with fail
        go_meet
        exact IN.out
    case rest =>
      clear c0 c1 c2 c3 c4 c5 c6 c7 c8 cf d0 d1 d2 d3 d4 d5 d6 d7 df
      have J2 := hid hcut
      clear hcut
      obtain ⟨c0, c1, c2, c3, c4, c5, c6, c7, c8, cf⟩ := cells9 ((J2.out.bel.block k HKB.out).trans HB3.out)
      obtain ⟨d0, d1, d2, d3, d4, d5, d6, d7, df⟩ := cells8 ((J2.out.bel.block j HJB.out).trans HF3.out)
      go_upto_if 38 with fail
      go_cut [39] from 39 to 44 (fun s39 wx => EI w3 wx base 17 (be 2 20307 ++ be 1 kn ++ pc bx (be 4 xn) ++ pc bm (be 6 mcn) ++ pc bi (be 4 inn)))
      case first =>
        have JL := J2.out.len
        generalize be 2 20307 ++ be 1 kn ++ pc bx (be 4 xn) ++ pc bm (be 6 mcn) = bs0 at *
        cases bi
        · go_wp2_with fail
          go_meet
          exact J2.out.none (by decide) _
        · obtain ⟨v, hv⟩ := J2.out.out
          have HV := hid hv
          clear hv
          have hcv : IntKind.u64.wrap (inn : Int) = inn := by rw [IntKind.wrap_u64]; omega
          go_wp2_with fail
          refine (bits_of wc base v _ HV.out J2.out.lo 4 (by decide) (by decide) inn (by omega) (by omega) 32 _ rfl (by first | rfl | exact hcv)).mono ?_
          rintro e w7 ⟨rfl, v7, ho, hk⟩
          have IN := hid (J2.out.some (N' := 17) HV.out _ ho hk (by rw [be_len]; decide))
          clear ho hk
          go_wp2_with fail
          go_meet
          exact IN.out
      case rest =>
        clear c0 c1 c2 c3 c4 c5 c6 c7 c8 cf d0 d1 d2 d3 d4 d5 d6 d7 df
        have J3 := hid hcut
        clear hcut
        obtain ⟨c0, c1, c2, c3, c4, c5, c6, c7, c8, cf⟩ := cells9 ((J3.out.bel.block k HKB.out).trans HB3.out)
        obtain ⟨d0, d1, d2, d3, d4, d5, d6, d7, df⟩ := cells8 ((J3.out.bel.block j HJB.out).trans HF3.out)
        go_upto_if 46 with fail
        go_cut [47] from 47 to 52 (fun s47 wx => EI w3 wx base 22 (be 2 20307 ++ be 1 kn ++ pc bx (be 4 xn) ++ pc bm (be 6 mcn) ++ pc bi (be 4 inn) ++ pc bt (be 5 tn)))
        case first =>
          have JL := J3.out.len
          generalize be 2 20307 ++ be 1 kn ++ pc bx (be 4 xn) ++ pc bm (be 6 mcn) ++ pc bi (be 4 inn) = bs0 at *
          cases bt
          · go_wp2_with fail
            go_meet
            exact J3.out.none (by decide) _
          · obtain ⟨v, hv⟩ := J3.out.out
            have HV := hid hv
            clear hv
            have hcv : IntKind.u64.wrap (tn : Int) = tn := by rw [IntKind.wrap_u64]; omega
            go_wp2_with fail
            refine (bits_of wc base v _ HV.out J3.out.lo 5 (by decide) (by decide) tn (by omega) (by omega) 40 _ rfl (by first | rfl | exact hcv)).mono ?_
            rintro e w7 ⟨rfl, v7, ho, hk⟩
            have IN := hid (J3.out.some (N' := 22) HV.out _ ho hk (by rw [be_len]; decide))
            clear ho hk
            go_wp2_with fail
            go_meet
            exact IN.out
        case rest =>
          clear c0 c1 c2 c3 c4 c5 c6 c7 c8 cf d0 d1 d2 d3 d4 d5 d6 d7 df
          have J4 := hid hcut
          clear hcut
          obtain ⟨c0, c1, c2, c3, c4, c5, c6, c7, c8, cf⟩ := cells9 ((J4.out.bel.block k HKB.out).trans HB3.out)
          obtain ⟨d0, d1, d2, d3, d4, d5, d6, d7, df⟩ := cells8 ((J4.out.bel.block j HJB.out).trans HF3.out)
          go_upto_if 54 with fail
          go_cut [55] from 55 to 67 (fun s55 wx => EI w3 wx base 31 (be 2 20307 ++ be 1 kn ++ pc bx (be 4 xn) ++ pc bm (be 6 mcn) ++ pc bi (be 4 inn) ++ pc bt (be 5 tn) ++ pc bu (be 1 s.size ++ s.data.toList)))
          case first =>
            have JL := J4.out.len
            generalize be 2 20307 ++ be 1 kn ++ pc bx (be 4 xn) ++ pc bm (be 6 mcn) ++ pc bi (be 4 inn) ++ pc bt (be 5 tn) = bs0 at *
            cases bu
            · go_wp2_with fail
              go_meet
              exact J4.out.none (by decide) _
            · obtain ⟨v, hv⟩ := J4.out.out
              have HV := hid hv
              clear hv
              have hcv : IntKind.u64.wrap (s.size : Int) = s.size := by rw [IntKind.wrap_u64]; omega
              go_wp2_with fail
              refine (bits_of wc base v _ HV.out J4.out.lo 1 (by decide) (by decide) s.size (by omega) (by omega) 8 _ rfl (by first | rfl | exact hcv)).mono ?_
              rintro e w7 ⟨rfl, v7, ho, hk⟩
              have IM := hid (show EI w3 w7 base 23 (bs0 ++ be 1 s.size) from by have h := J4.out.some (N' := 23) HV.out _ ho hk (by rw [be_len]; decide); simpa [pc] using h)
              have HV7 := hid ho
              have JL7 := IM.out.len
              clear ho hk c0 c1 c2 c3 c4 c5 c6 c7 c8 cf d0 d1 d2 d3 d4 d5 d6 d7 df
              obtain ⟨c0, c1, c2, c3, c4, c5, c6, c7, c8, cf⟩ := cells9 ((IM.out.bel.block k HKB.out).trans HB3.out)
              obtain ⟨scap, so, hconv, hsr⟩ := str_bytes w7 s (by omega)
              have HSR := hid hsr
              have hdl : s.data.toList.length = s.size := by rw [Array.length_toList]; rfl
              have HDL := hid hdl
              clear hsr hdl
              go_wp2_with fail
              refine (text_t w7 base v7 _ HV7.out IM.out.lo _ s.data.toList so _ rfl HSR.out rfl (by rw [HDL.out]; omega)).mono ?_
              rintro e w8 ⟨rfl, v8, ho, hk⟩
              have IN := hid (show EI w3 w8 base 31 (bs0 ++ pc true (be 1 s.size ++ s.data.toList)) from by
                have e1 : bs0 ++ pc true (be 1 s.size ++ s.data.toList) = bs0 ++ be 1 s.size ++ s.data.toList := by simp [pc]
                rw [e1]
                refine ⟨⟨v8, ho⟩, Nat.le_trans (by have := IM.out.lo; show base ≤ ((w7.alloc so).alloc _).heap.size; simp; omega) hk.1.size, kept_below (((IM.out.bel).alloc IM.out.lo so).alloc (by have := IM.out.lo; simp; omega) _).drew ((HV7.out.alloc so).alloc _).drew hk, ?_⟩
                rw [List.length_append, HDL.out]; omega)
              clear ho hk hconv
              go_wp2_with fail
              go_meet
              exact IN.out
          case rest =>
            clear c0 c1 c2 c3 c4 c5 c6 c7 c8 cf d0 d1 d2 d3 d4 d5 d6 d7 df
            have J5 := hid hcut
            clear hcut
            obtain ⟨c0, c1, c2, c3, c4, c5, c6, c7, c8, cf⟩ := cells9 ((J5.out.bel.block k HKB.out).trans HB3.out)
            obtain ⟨d0, d1, d2, d3, d4, d5, d6, d7, df⟩ := cells8 ((J5.out.bel.block j HJB.out).trans HF3.out)
            go_upto_if 69 with fail
            go_cut [70] from 70 to 74 (fun s70 wx => EI w3 wx base 39 (be 2 20307 ++ be 1 kn ++ pc bx (be 4 xn) ++ pc bm (be 6 mcn) ++ pc bi (be 4 inn) ++ pc bt (be 5 tn) ++ pc bu (be 1 s.size ++ s.data.toList) ++ pc bn (be 8 nn)))
            case first =>
              have JL := J5.out.len
              generalize be 2 20307 ++ be 1 kn ++ pc bx (be 4 xn) ++ pc bm (be 6 mcn) ++ pc bi (be 4 inn) ++ pc bt (be 5 tn) ++ pc bu (be 1 s.size ++ s.data.toList) = bs0 at *
              cases bn
              · go_wp2_with fail
                go_meet
                exact J5.out.none (by decide) _
              · obtain ⟨v, hv⟩ := J5.out.out
                have HV := hid hv
                clear hv
                have hcv : IntKind.u64.wrap (nn : Int) = nn := by rw [IntKind.wrap_u64]; omega
                go_wp2_with fail
                refine (bits_of wc base v _ HV.out J5.out.lo 8 (by decide) (by decide) nn (by omega) (by omega) 64 _ rfl (by first | rfl | exact hcv)).mono ?_
                rintro e w7 ⟨rfl, v7, ho, hk⟩
                have IN := hid (J5.out.some (N' := 39) HV.out _ ho hk (by rw [be_len]; decide))
                clear ho hk
                go_wp2_with fail
                go_meet
                exact IN.out
            case rest =>
              clear c0 c1 c2 c3 c4 c5 c6 c7 c8 cf d0 d1 d2 d3 d4 d5 d6 d7 df
              have J6 := hid hcut
              clear hcut
              obtain ⟨c0, c1, c2, c3, c4, c5, c6, c7, c8, cf⟩ := cells9 ((J6.out.bel.block k HKB.out).trans HB3.out)
              obtain ⟨d0, d1, d2, d3, d4, d5, d6, d7, df⟩ := cells8 ((J6.out.bel.block j HJB.out).trans HF3.out)
              go_upto_if 76 with fail
              go_cut [77] from 77 to 81 (fun s77 wx => EI w3 wx base 47 (be 2 20307 ++ be 1 kn ++ pc bx (be 4 xn) ++ pc bm (be 6 mcn) ++ pc bi (be 4 inn) ++ pc bt (be 5 tn) ++ pc bu (be 1 s.size ++ s.data.toList) ++ pc bn (be 8 nn) ++ pc bg (be 8 gn)))
              case first =>
                have JL := J6.out.len
                generalize be 2 20307 ++ be 1 kn ++ pc bx (be 4 xn) ++ pc bm (be 6 mcn) ++ pc bi (be 4 inn) ++ pc bt (be 5 tn) ++ pc bu (be 1 s.size ++ s.data.toList) ++ pc bn (be 8 nn) = bs0 at *
                cases bg
                · go_wp2_with fail
                  go_meet
                  exact J6.out.none (by decide) _
                · obtain ⟨v, hv⟩ := J6.out.out
                  have HV := hid hv
                  clear hv
                  have hcv : IntKind.u64.wrap (gn : Int) = gn := by rw [IntKind.wrap_u64]; omega
                  go_wp2_with fail
                  refine (bits_of wc base v _ HV.out J6.out.lo 8 (by decide) (by decide) gn (by omega) (by omega) 64 _ rfl (by first | rfl | exact hcv)).mono ?_
                  rintro e w7 ⟨rfl, v7, ho, hk⟩
                  have IN := hid (J6.out.some (N' := 47) HV.out _ ho hk (by rw [be_len]; decide))
                  clear ho hk
                  go_wp2_with fail
                  go_meet
                  exact IN.out
              case rest =>
                clear c0 c1 c2 c3 c4 c5 c6 c7 c8 cf d0 d1 d2 d3 d4 d5 d6 d7 df
                have J7 := hid hcut
                clear hcut
                obtain ⟨c0, c1, c2, c3, c4, c5, c6, c7, c8, cf⟩ := cells9 ((J7.out.bel.block k HKB.out).trans HB3.out)
                obtain ⟨d0, d1, d2, d3, d4, d5, d6, d7, df⟩ := cells8 ((J7.out.bel.block j HJB.out).trans HF3.out)
                go_upto_if 83 with fail
                go_cut [84] from 84 to 89 (fun s84 wx => EI w3 wx base 48 (be 2 20307 ++ be 1 kn ++ pc bx (be 4 xn) ++ pc bm (be 6 mcn) ++ pc bi (be 4 inn) ++ pc bt (be 5 tn) ++ pc bu (be 1 s.size ++ s.data.toList) ++ pc bn (be 8 nn) ++ pc bg (be 8 gn) ++ pc bw (be 1 yn)))
                case first =>
                  have JL := J7.out.len
                  generalize be 2 20307 ++ be 1 kn ++ pc bx (be 4 xn) ++ pc bm (be 6 mcn) ++ pc bi (be 4 inn) ++ pc bt (be 5 tn) ++ pc bu (be 1 s.size ++ s.data.toList) ++ pc bn (be 8 nn) ++ pc bg (be 8 gn) = bs0 at *
                  cases bw
                  · go_wp2_with fail
                    go_meet
                    exact J7.out.none (by decide) _
                  · obtain ⟨v, hv⟩ := J7.out.out
                    have HV := hid hv
                    clear hv
                    have hcv : IntKind.u64.wrap (yn : Int) = yn := by rw [IntKind.wrap_u64]; omega
                    go_wp2_with fail
                    refine (bits_of wc base v _ HV.out J7.out.lo 1 (by decide) (by decide) yn (by omega) (by omega) 8 _ rfl (by first | rfl | exact hcv)).mono ?_
                    rintro e w7 ⟨rfl, v7, ho, hk⟩
                    have IN := hid (J7.out.some (N' := 48) HV.out _ ho hk (by rw [be_len]; decide))
                    clear ho hk
                    go_wp2_with fail
                    go_meet
                    exact IN.out
                case rest =>
                  clear c0 c1 c2 c3 c4 c5 c6 c7 c8 cf d0 d1 d2 d3 d4 d5 d6 d7 df
                  have J8 := hid hcut
                  have HEE := hid (show be 2 20307 ++ be 1 kn ++ pc bx (be 4 xn) ++ pc bm (be 6 mcn) ++ pc bi (be 4 inn) ++ pc bt (be 5 tn) ++ pc bu (be 1 s.size ++ s.data.toList) ++ pc bn (be 8 nn) ++ pc bg (be 8 gn) ++ pc bw (be 1 yn) = E from HE0.out)
                  rw [HEE.out] at J8
                  have J8 := J8
                  obtain ⟨v, hv⟩ := J8.out.out
                  have HV := hid hv
                  have JL := J8.out.len
                  clear hcut hv
                  go_wp2_with fail
                  refine (done_t wc base base v _ _ HV.out (by omega)).mono ?_
                  rintro e w9 ⟨r, rfl, ho, hc⟩
                  have HR := hid (Rd.of_owns ho)
                  have HC9 := hid (HC3.out.trans (T := fun _ => False) ⟨J8.out.bel.os, J8.out.bel.tape, J8.out.bel.output, J8.out.bel.size, fun i hi _ => J8.out.bel.block i (by rw [← HBS.out]; exact hi)⟩ (fun _ _ e => e) |>.trans hc (fun _ _ e => e))
                  clear ho hc
                  go_wp2_with fail
                  go_ret2
                  exact ⟨r, rfl, HR.out, HC9.out⟩
end Go.Proofs.Ytcnfmkhkibfpbaa
