/- The walk of the law TalkApart. -/
import Derived.Test.YtcnfmkhkibfpbaaInj
import Derived.Test.YtcnfmkhkibfpbaaMyE
import Derived.Test.YtcnfmkhkibfpbaaTalk
namespace Go.Proofs.Ytcnfmkhkibfpbaa
open Go Go.RowKit
set_option linter.unusedVariables false
/-- What the kinds of its numbers say. -/
structure MsgWf (m : MsgS) : Prop where
  x0 : 0 ≤ m.xid
  x1 : m.xid < 4294967296
  m0 : 0 ≤ m.mac
  i0 : 0 ≤ m.ip
  i1 : m.ip < 4294967296
  n0 : 0 ≤ m.nonce
  n1 : m.nonce < 18446744073709551616
  g0 : 0 ≤ m.tag
  g1 : m.tag < 18446744073709551616
/-- A message that may be, in natural numbers. -/
structure Nice (m : MsgS) (l : List UInt8) : Prop where
  ok : MayOk m
  wf : MsgWf m
  enc : l = encM m.kind.toNat m.xid.toNat m.mac.toNat m.ip.toNat m.ticks.toNat m.user m.nonce.toNat m.tag.toNat m.why.toNat
theorem nats {m : MsgS} (h : MayOk m) (w : MsgWf m) : ∃ (kn xn mcn inn tn nn gn yn : Nat) (s : ByteArray), m = ⟨kn, xn, mcn, inn, tn, s, nn, gn, yn⟩ ∧ xn < 4294967296 ∧ inn < 4294967296 ∧ nn < 18446744073709551616 ∧ gn < 18446744073709551616 := by
  obtain ⟨k, x, mc, i, t, s, n, g, y⟩ := m
  have k1 := h.k1
  have t0 := h.t0
  have w0 := h.w0
  obtain ⟨x0, x1, m0, i0, i1, n0, n1, g0, g1⟩ := w
  dsimp only at *
  refine ⟨k.toNat, x.toNat, mc.toNat, i.toNat, t.toNat, n.toNat, g.toNat, y.toNat, s, ?_, by omega, by omega, by omega, by omega⟩
  rw [Int.toNat_of_nonneg (by omega), Int.toNat_of_nonneg x0, Int.toNat_of_nonneg m0, Int.toNat_of_nonneg i0, Int.toNat_of_nonneg t0, Int.toNat_of_nonneg n0, Int.toNat_of_nonneg g0, Int.toNat_of_nonneg w0]
theorem encode_m {m : MsgS} (h : MayOk m) (wf : MsgWf m) (w : World) :
    Calls Try.prog 22 #[.agg (msgV m)] w fun e w' => ∃ r l, e = .returned (.tuple #[r, .int .i64 0]) ∧ Rd w' r l ∧ Nice m l ∧ New w w' := by
  obtain ⟨kn, xn, mcn, inn, tn, nn, gn, yn, s, rfl, hx, hi, hn, hg⟩ := nats h wf
  exact (encode_t kn xn mcn inn tn s nn gn yn h hx hi hn hg w).mono fun e w' ⟨r, h1, h2, h3⟩ => ⟨r, _, h1, h2, ⟨h, wf, rfl⟩, h3⟩
theorem nice_inj {m n : MsgS} {l l' : List UInt8} (h : Nice m l) (h' : Nice n l') : l = l' ↔ m = n := by
  constructor
  · intro e
    obtain ⟨kn, xn, mcn, inn, tn, nn, gn, yn, s, rfl, hx, hi, hn, hg⟩ := nats h.ok h.wf
    obtain ⟨kn', xn', mcn', inn', tn', nn', gn', yn', s', rfl, hx', hi', hn', hg'⟩ := nats h'.ok h'.wf
    have e2 : encM kn xn mcn inn tn s nn gn yn = encM kn' xn' mcn' inn' tn' s' nn' gn' yn' := by
      have a := h.enc
      have b := h'.enc
      dsimp only [Int.toNat_natCast] at a b
      rw [← a, ← b]; exact e
    obtain ⟨rfl, rfl, rfl, rfl, rfl, rfl, rfl, rfl, rfl⟩ := encM_inj h.ok h'.ok hx hi hn hg hx' hi' hn' hg' e2
    rfl
  · rintro rfl
    rw [h.enc, h'.enc]
def cmp41 (x y : Value) := binOp .eql 41 x y
theorem cmp41_fold (x y : Value) : binOp .eql 41 x y = cmp41 x y := rfl
def cmp9 (x y : Value) := binOp .eql 9 x y
theorem cmp9_fold (x y : Value) : binOp .eql 9 x y = cmp9 x y := rfl
open Classical in
theorem cmp41_run (m n : MsgS) (w : World) : (cmp41 (.agg (msgV m)) (.agg (msgV n))).run Try.prog w = .ok (.bool (decide (m = n))) w := by
  obtain ⟨k, x, mc, i, t, s, nn, g, y⟩ := m
  obtain ⟨k', x', mc', i', t', s', nn', g', y'⟩ := n
  unfold cmp41 msgV
  dsimp only
  simp [go_sem, toList_iff]
  by_cases h1 : k = k' <;> by_cases h2 : x = x' <;> by_cases h3 : mc = mc' <;> by_cases h4 : i = i' <;> by_cases h5 : t = t' <;> by_cases h6 : s = s' <;> by_cases h7 : nn = nn' <;> by_cases h8 : g = g' <;> by_cases h9 : y = y' <;> simp [*]
open Classical in
theorem cmp9_run (l l' : List UInt8) (w : World) : (cmp9 (.string ⟨l.toArray⟩) (.string ⟨l'.toArray⟩)).run Try.prog w = .ok (.bool (decide (l = l'))) w := by
  unfold cmp9
  by_cases h : l = l'
  · subst h; simp [go_sem]
  · have : ¬ (⟨l.toArray⟩ : ByteArray) = ⟨l'.toArray⟩ := fun e => h (by injection e with e; exact List.toArray_inj e)
    simp [go_sem, h]
/-- Both boxes of the messages. -/
structure Two (w : World) (b : Nat) (M N : Array Value) : Prop where
  m : w.heap[b]? = some (.cells M 41 (0, 0))
  n : w.heap[b + 1]? = some (.cells N 41 (0, 0))
theorem Two.new {w w' : World} {b : Nat} {M N : Array Value} (h : Two w b M N) (c : New w w') : Two w' b M N := ⟨(c.block b (lt_of_block7 h.m) (fun e => e)).trans h.m, (c.block (b + 1) (lt_of_block7 h.n) (fun e => e)).trans h.n⟩
attribute [local go_sem ↓] cmp41_fold cmp9_fold
open Classical in
set_option maxRecDepth 100000 in
set_option maxHeartbeats 16000000 in
theorem talkApart_t (m n : MsgS) (hm : MsgWf m) (hn : MsgWf n) (w : World) : Calls Try.prog 9 #[.agg (msgV m), .agg (msgV n)] w fun e w' => e = .returned (.bool true) ∧ Below w.heap.size w w' := by
  have R1 := hid (fun w => mayR_t m w)
  have R2 := hid (fun w => mayR_t n w)
  have E1 := hid (fun (h : MayOk m) w => encode_m h hm w)
  have E2 := hid (fun (h : MayOk n) w => encode_m h hn w)
  have O1 := hid (fun w => ours_t m w)
  have O2 := hid (fun w => ours_t n w)
  have CM := hid (fun w => cmp41_run m n w)
  obtain ⟨k, x, mc, i, t, s, nn, g, y⟩ := m
  obtain ⟨k', x', mc', i', t', s', nn', g', y'⟩ := n
  unfold msgV at *
  dsimp only at *
  clear hm hn
  go_enter Try.func9, Try.ntmps9
  go_upto_region 1 with fail
  have B0 := hid (show Two ((w.alloc (.cells #[.int .i64 k, .int .u32 x, .int .u64 mc, .int .u32 i, .int .i64 t, .string s, .int .u64 nn, .int .u64 g, .int .i64 y] 41)).alloc (.cells #[.int .i64 k', .int .u32 x', .int .u64 mc', .int .u32 i', .int .i64 t', .string s', .int .u64 nn', .int .u64 g', .int .i64 y'] 41)) w.heap.size #[.int .i64 k, .int .u32 x, .int .u64 mc, .int .u32 i, .int .i64 t, .string s, .int .u64 nn, .int .u64 g, .int .i64 y] #[.int .i64 k', .int .u32 x', .int .u64 mc', .int .u32 i', .int .i64 t', .string s', .int .u64 nn', .int .u64 g', .int .i64 y'] from ⟨heap_alloc12 w _ _, heap_alloc2_new w _ _⟩)
  have N0 := hid (((Chg.refl (fun _ => False) w).alloc (.cells #[.int .i64 k, .int .u32 x, .int .u64 mc, .int .u32 i, .int .i64 t, .string s, .int .u64 nn, .int .u64 g, .int .i64 y] 41)).alloc (.cells #[.int .i64 k', .int .u32 x', .int .u64 mc', .int .u32 i', .int .i64 t', .string s', .int .u64 nn', .int .u64 g', .int .i64 y'] 41))
  generalize (w.alloc (.cells #[.int .i64 k, .int .u32 x, .int .u64 mc, .int .u32 i, .int .i64 t, .string s, .int .u64 nn, .int .u64 g, .int .i64 y] 41)).alloc (.cells #[.int .i64 k', .int .u32 x', .int .u64 mc', .int .u32 i', .int .i64 t', .string s', .int .u64 nn', .int .u64 g', .int .i64 y'] 41) = w0 at *
  generalize hb : w.heap.size = b at *
  have HB := hid hb
  clear hb
  obtain ⟨c0, c1, c2, c3, c4, c5, c6, c7, c8, cf⟩ := cells9 B0.out.m
  obtain ⟨d0, d1, d2, d3, d4, d5, d6, d7, d8, df⟩ := cells9 B0.out.n
  go_wp2_with fail
  refine (R1.out _).mono ?_
  rintro e w1 ⟨b1, rfl, hc, hok⟩
  have N1 := hid (N0.out.trans hc (fun _ _ e => e))
  have B1 := hid (B0.out.new hc)
  have OK1 := hid hok
  clear hc hok c0 c1 c2 c3 c4 c5 c6 c7 c8 cf d0 d1 d2 d3 d4 d5 d6 d7 d8 df
  obtain ⟨c0, c1, c2, c3, c4, c5, c6, c7, c8, cf⟩ := cells9 B1.out.m
  obtain ⟨d0, d1, d2, d3, d4, d5, d6, d7, d8, df⟩ := cells9 B1.out.n
  cases b1
  · go_wp2_with fail
    refine (awake7_t _).mono ?_
    rintro e w2 ⟨rfl, hc⟩
    have N2 := hid (N1.out.trans hc (fun _ _ e => e))
    clear hc
    go_wp2_with fail
    go_ret
    exact ⟨rfl, N2.out.below (fun _ e => e.elim) (by rw [HB.out]; exact Nat.le_refl _)⟩
  · go_wp2_with fail
    refine (R2.out _).mono ?_
    rintro e w2 ⟨b2, rfl, hc, hok⟩
    have N2 := hid (N1.out.trans hc (fun _ _ e => e))
    have B2 := hid (B1.out.new hc)
    have OK2 := hid hok
    clear hc hok c0 c1 c2 c3 c4 c5 c6 c7 c8 cf d0 d1 d2 d3 d4 d5 d6 d7 d8 df
    obtain ⟨c0, c1, c2, c3, c4, c5, c6, c7, c8, cf⟩ := cells9 B2.out.m
    obtain ⟨d0, d1, d2, d3, d4, d5, d6, d7, d8, df⟩ := cells9 B2.out.n
    cases b2
    · go_wp2_with fail
      refine (awake7_t _).mono ?_
      rintro e w3 ⟨rfl, hc⟩
      have N3 := hid (N2.out.trans hc (fun _ _ e => e))
      clear hc
      go_wp2_with fail
      go_ret
      exact ⟨rfl, N3.out.below (fun _ e => e.elim) (by rw [HB.out]; exact Nat.le_refl _)⟩
    · go_wp2_with fail
      refine (O1.out _).mono ?_
      rintro e w3 ⟨rfl, hc⟩
      have N3 := hid (N2.out.trans hc (fun _ _ e => e))
      have B3 := hid (B2.out.new hc)
      clear hc
      go_wp2_with fail
      refine (E1.out (by first | exact OK1.out rfl | exact OK1.out trivial) _).mono ?_
      rintro e w4 ⟨r1, l1, rfl, hr, hni, hc⟩
      have N4 := hid (N3.out.trans hc (fun _ _ e => e))
      have B4 := hid (B3.out.new hc)
      have RD1 := hid hr
      have NI1 := hid hni
      clear hc hr hni c0 c1 c2 c3 c4 c5 c6 c7 c8 cf d0 d1 d2 d3 d4 d5 d6 d7 d8 df
      obtain ⟨d0, d1, d2, d3, d4, d5, d6, d7, d8, df⟩ := cells9 B4.out.n
      go_wp2_with fail
      refine (O2.out _).mono ?_
      rintro e w5 ⟨rfl, hc⟩
      have N5 := hid (N4.out.trans hc (fun _ _ e => e))
      have B5 := hid (B4.out.new hc)
      have RD2 := hid (RD1.out.move (fun g _ hg => hc.block g hg (fun e => e)))
      clear hc
      go_wp2_with fail
      refine (E2.out (by first | exact OK2.out rfl | exact OK2.out trivial) _).mono ?_
      rintro e w6 ⟨r2, l2, rfl, hr, hni, hc⟩
      have N6 := hid (N5.out.trans hc (fun _ _ e => e))
      have B6 := hid (B5.out.new hc)
      have RD3 := hid (RD2.out.move (fun g _ hg => hc.block g hg (fun e => e)))
      have RD4 := hid hr
      have NI2 := hid hni
      clear hc hr hni d0 d1 d2 d3 d4 d5 d6 d7 d8 df
      obtain ⟨c0, c1, c2, c3, c4, c5, c6, c7, c8, cf⟩ := cells9 B6.out.m
      obtain ⟨d0, d1, d2, d3, d4, d5, d6, d7, d8, df⟩ := cells9 B6.out.n
      have hcv1 := bytes_str RD3.out.drew
      have hcv2 := bytes_str RD4.out.drew
      have hcs := cmp9_run l1 l2
      have hcm := CM.out
      have hll : decide (l1 = l2) = decide ((⟨k, x, mc, i, t, s, nn, g, y⟩ : MsgS) = ⟨k', x', mc', i', t', s', nn', g', y'⟩) := decide_eq_decide.2 (nice_inj NI1.out NI2.out)
      rw [← hll] at hcm
      generalize decide (l1 = l2) = bb at *
      generalize hs1 : ByteArray.mk l1.toArray = str1 at *
      generalize hs2 : ByteArray.mk l2.toArray = str2 at *
      have HS1 := hid hs1
      have HS2 := hid hs2
      clear hs1 hs2
      have hbb : (bb == bb) = true := beq_self_eq_true bb
      clear hll
      go_upto_region 5 with fail
      go_region_held3 (fun w' => w'.cell? ⟨b, 0, none⟩ = some (.int .i64 k) ∧ w'.cell? ⟨b, 1, none⟩ = some (.int .u32 x) ∧ w'.cell? ⟨b, 2, none⟩ = some (.int .u64 mc) ∧ w'.cell? ⟨b, 3, none⟩ = some (.int .u32 i) ∧ w'.cell? ⟨b, 4, none⟩ = some (.int .i64 t) ∧ w'.cell? ⟨b, 5, none⟩ = some (.string s) ∧ w'.cell? ⟨b, 6, none⟩ = some (.int .u64 nn) ∧ w'.cell? ⟨b, 7, none⟩ = some (.int .u64 g) ∧ w'.cell? ⟨b, 8, none⟩ = some (.int .i64 y) ∧ w'.cell? ⟨b + 1, 0, none⟩ = some (.int .i64 k') ∧ w'.cell? ⟨b + 1, 1, none⟩ = some (.int .u32 x') ∧ w'.cell? ⟨b + 1, 2, none⟩ = some (.int .u64 mc') ∧ w'.cell? ⟨b + 1, 3, none⟩ = some (.int .u32 i') ∧ w'.cell? ⟨b + 1, 4, none⟩ = some (.int .i64 t') ∧ w'.cell? ⟨b + 1, 5, none⟩ = some (.string s') ∧ w'.cell? ⟨b + 1, 6, none⟩ = some (.int .u64 nn') ∧ w'.cell? ⟨b + 1, 7, none⟩ = some (.int .u64 g') ∧ w'.cell? ⟨b + 1, 8, none⟩ = some (.int .i64 y') ∧ (convert 22 9 r1).run Try.prog w' = .ok (.string str1) w' ∧ (convert 22 9 r2).run Try.prog w' = .ok (.string str2) w')
        (go_keep)
        ((go_at_call 21; refine (awake7_t _).mono ?_; rintro e w7 ⟨rfl, hc⟩; have N7 := hid (N6.out.drew.trans hc (fun _ _ e => e)); have B7 := hid (B6.out.new ((Chg.drew (Chg.refl (fun _ => False) _)).trans hc (fun _ _ e => e))); obtain ⟨p0, p1, p2, p3, p4, p5, p6, p7, p8, pf⟩ := cells9 B7.out.m; obtain ⟨q0, q1, q2, q3, q4, q5, q6, q7, q8, qf⟩ := cells9 B7.out.n; have cw1 := bytes_str (RD3.out.drew.move (w' := w7) (fun g _ hg => hc.block g hg (fun e => e))); have cw2 := bytes_str (RD4.out.drew.move (w' := w7) (fun g _ hg => hc.block g hg (fun e => e))); rw [HS1.out] at cw1; rw [HS2.out] at cw2; clear hc))
      all_goals go_wp2_with fail
      all_goals go_ret
      all_goals exact ⟨rfl, N7.out.below (fun _ e => e.elim) (by rw [HB.out]; exact Nat.le_refl _)⟩
end Go.Proofs.Ytcnfmkhkibfpbaa
