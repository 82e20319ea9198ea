-- OpB: printed by port.py from seat a's walks.
import Derived.Test.YtjlmbmamkhneiaaOpA
import Derived.Laws.OwnMore
import Derived.OneCell
import Derived.Deep.AppendLies
import Derived.Laws.BitsAllLaws
namespace Go.Proofs.Ytjlmbmamkhneiaa.OutP
open Go Go.RowKit
set_option maxRecDepth 100000
/-- Of the blocks that there are those of S alone may have changed. -/
structure Chg (S : Nat → Prop) (w w' : World) : Prop where
  os : w'.os = w.os
  tape : w'.tape = w.tape
  output : w'.output = w.output
  size : w.heap.size ≤ w'.heap.size
  block : ∀ k, k < w.heap.size → ¬ S k → w'.heap[k]? = w.heap[k]?
namespace Chg
variable {S T : Nat → Prop} {w w1 w2 : World}
theorem refl (S : Nat → Prop) (w : World) : Chg S w w := ⟨rfl, rfl, rfl, Nat.le_refl _, fun _ _ _ => rfl⟩
theorem mono (h : Chg S w w1) (hs : ∀ k, k < w.heap.size → S k → T k) : Chg T w w1 := ⟨h.os, h.tape, h.output, h.size, fun k hk ht => h.block k hk (fun e => ht (hs k hk e))⟩
theorem trans (h : Chg S w w1) (k : Chg T w1 w2) (hs : ∀ i, i < w.heap.size → T i → S i) : Chg S w w2 :=
  ⟨k.os.trans h.os, k.tape.trans h.tape, k.output.trans h.output, Nat.le_trans h.size k.size,
    fun i hi hn => (k.block i (Nat.lt_of_lt_of_le hi h.size) (fun e => hn (hs i hi e))).trans (h.block i hi hn)⟩
theorem drew (h : Chg S w w1) : Chg S w w1.drew := ⟨h.os, h.tape, h.output, h.size, h.block⟩
theorem drewN (h : Chg S w w1) (n : Nat) : Chg S w (w1.drewN n) := ⟨h.os, h.tape, h.output, h.size, h.block⟩
theorem alloc (h : Chg S w w1) (o : Obj) : Chg S w (w1.alloc o) :=
  h.trans (T := fun _ => False) ⟨rfl, rfl, rfl, by simp, fun k hk _ => Below.heap_alloc w1 o k hk⟩ (fun _ _ e => e.elim)
theorem setCell (h : Chg S w w1) {p : Addr} (hp : p.block < w.heap.size → S p.block) (u : Value) : Chg S w (w1.setCell p u) :=
  h.trans (T := fun k => k = p.block) ⟨rfl, rfl, rfl, by simp [World.setCell], fun k _ hk => Below.heap_setCell w1 p u k hk⟩ (fun i hi e => e ▸ hp (e ▸ hi))
theorem grown (h : Chg S w w1) {r : Option Nat} (hg : w1.grownBy w2 r) (hr : ∀ k, r = some k → k < w.heap.size → S k) : Chg S w w2 :=
  h.trans (T := fun k => some k = r) ⟨hg.os, hg.tape, hg.output, hg.size, fun k hk hn => hg.block k hk hn⟩ (fun i hi e => hr i e.symm hi)
theorem setRow (h : Chg S w w1) {g : Nat} (hp : g < w.heap.size → S g) (cs : Array Value) : Chg S w (w1.setRow g cs) :=
  h.trans (T := fun k => k = g) ⟨rfl, rfl, rfl, by simp, fun k _ hk => setRow_other w1 g k cs hk⟩ (fun i hi e => e ▸ hp (e ▸ hi))
theorem below {B : Nat} (h : Chg S w w1) (hs : ∀ k, S k → B ≤ k) (hB : B ≤ w.heap.size) : Below B w w1 :=
  ⟨h.os, h.tape, h.output, h.size, fun k hk => h.block k (Nat.lt_of_lt_of_le hk hB) (fun e => by have := hs k e; omega)⟩
theorem of_below {B : Nat} (h : Below B w w1) : Chg (fun k => B ≤ k) w w1 := ⟨h.os, h.tape, h.output, h.size, fun k _ hn => h.block k (Nat.lt_of_not_le hn)⟩
theorem cell (h : Chg S w w1) {g i : Nat} {u : Value} (hc : w.cell? ⟨g, i, none⟩ = some u) (hn : ¬ S g) : w1.cell? ⟨g, i, none⟩ = some u :=
  (World.cell?_of_block (h.block g (lt_of_cell hc) hn)).trans hc
end Chg
/-- Bits that grow stand at block p: the bytes bs, n bits of them written. -/
structure OutAt (w : World) (base p : Nat) (v : Value) (bs : List UInt8) (n : Nat) : Prop where
  cells : w.heap[p]? = some (.cells #[v, .int .i64 n] 146 (0, 0))
  own : w.ownsRow base 5 1 v bs.length (bs.map B)
  low : base ≤ p
theorem cells2 {w : World} {g : Nat} {t : TypeId} {x0 x1 : Value} (hg : w.heap[g]? = some (.cells #[x0, x1] t (0, 0))) :
    w.cell? ⟨g, 0, none⟩ = some x0 ∧ w.cell? ⟨g, 1, none⟩ = some x1 ∧ ∀ i, w.frozen? ⟨g, i, none⟩ = false :=
  ⟨by rw [cell_of_row w g 0 _ t _ hg]; rfl, by rw [cell_of_row w g 1 _ t _ hg]; rfl, fun i => frozen_of_row w g i _ t hg⟩
theorem room_t (w : World) (base p : Nat) (v : Value) (bs : List UInt8) (n : Nat) (h : OutAt w base p v bs n) (hn : n ≤ 524288) (k : Nat) (_hk : k ≤ 524288) :
    Calls Try.prog 92 #[.pointer (some ⟨p, 0, none⟩), .int .i64 k] w fun e w' => e = .returned (.bool (decide (k + n ≤ 524288))) ∧ w = w' := by
  obtain ⟨h0, h1, hf⟩ := cells2 h.cells
  clear h
  go_enter Try.func92, Try.ntmps92
  go_wp2
  go_ret
  exact ⟨vr (by show Value.bool _ = _; congr 1; exact decide_eq_decide.2 (by omega)), rfl⟩
theorem own_some {w : World} {base : Nat} {e : TypeId} {v : Value} {n : Nat} {xs : List Value} (h : w.ownsRow base e 1 v n xs) (hn : 0 < n) : ∃ g cap, v = .slice (some ⟨g, 0, none⟩) n cap := by
  rcases h.2 with ⟨_, e⟩ | ⟨g, cap, cur, hv, _⟩
  · omega
  · exact ⟨g, cap, hv⟩
/-- One bit u behind n = 8 q + k of them. -/
def putB (bs : List UInt8) (q k u : Nat) : List UInt8 :=
  if k = 0 then bs ++ [0 ||| UInt8.ofNat (u * 128)] else bs.set q (bs.getD q 0 ||| UInt8.ofNat (u * 2 ^ (7 - k)))
theorem u8or (x : UInt8) (c : Nat) (hc : c < 256) : bits .or .u8 (x.toNat : Int) (c : Int) = ((x ||| UInt8.ofNat c).toNat : Int) := by
  rw [u8_or_nat _ _ x.toNat_lt hc, UInt8.toNat_or, UInt8.toNat_ofNat_of_lt' hc]
theorem OutAt.ne {w : World} {base p g n cap : Nat} {bs : List UInt8} {ln : Nat} (h : OutAt w base p (.slice (some ⟨g, 0, none⟩) ln cap) bs n) : g ≠ p := by
  rintro rfl
  rcases h.own.2 with ⟨e, _⟩ | ⟨g', cap', cur, hv, hg, hh, _⟩
  · cases e
  · injection hv with e1
    injection e1 with e1
    injection e1 with e1
    have := h.cells
    rw [e1, hh] at this
    simp at this
theorem put_out {w : World} {base p g cap n q : Nat} {bs : List UInt8} (h : OutAt w base p (.slice (some ⟨g, 0, none⟩) bs.length cap) bs n) {y : UInt8} :
    OutAt ((w.drew.setCell ⟨g, q, none⟩ (B y)).setCell ⟨p, 1, none⟩ (.int .i64 ((n : Int) + 1))) base p (.slice (some ⟨g, 0, none⟩) (bs.set q y).length cap) (bs.set q y) (n + 1) ∧
      Chg (fun k => k = p ∨ some k = some g) w ((w.drew.setCell ⟨g, q, none⟩ (B y)).setCell ⟨p, 1, none⟩ (.int .i64 ((n : Int) + 1))) := by
  have hne := h.ne
  have hown : w.drew.ownsRow base 5 1 (.slice (some ⟨g, 0, none⟩) bs.length cap) bs.length (bs.map B) := h.own.drew
  obtain ⟨s1, s2⟩ := hown.stored q (B y)
  have hc1 : (w.drew.setCell ⟨g, q, none⟩ (B y)).heap[p]? = some (.cells #[.slice (some ⟨g, 0, none⟩) bs.length cap, .int .i64 n] 146 (0, 0)) := by
    rw [heap_setCell_other _ _ _ _ (Ne.symm hne)]; exact h.cells
  refine ⟨⟨?_, ?_, h.low⟩, (((Chg.refl _ w).drew).setCell (fun _ => .inr rfl) _).setCell (fun _ => .inl rfl) _⟩
  · rw [heap_setCell_same _ p 1 _ 146 _ hc1, List.length_set]
    rfl
  · rw [List.length_set, List.map_set]
    exact ownsRow_setCell_other s1 (by intro e; injection e with e; exact hne e) _
theorem OutAt.apart {w : World} {base p n : Nat} {v : Value} {bs : List UInt8} (h : OutAt w base p v bs n) : some p ≠ v.ownBlock := by
  intro e
  rcases h.own.2 with ⟨hn, _⟩ | ⟨g', cap', cur, hv, hg, hh, _⟩
  · rw [hn] at e; cases e
  · rw [hv] at e
    injection e with e
    have := h.cells
    rw [e, hh] at this
    simp at this
theorem grow_out {w w1 : World} {base p n : Nat} {v v' : Value} {bs : List UInt8} {o : Obj} (h : OutAt w base p v bs n) (hg : (w.alloc o).grownBy w1 v.ownBlock)
    (hown : w1.ownsRow base 5 1 v' (bs ++ [0]).length ((bs ++ [0]).map B)) :
    w1.cell? ⟨p, 0, none⟩ = some v ∧ w1.cell? ⟨p, 1, none⟩ = some (.int .i64 n) ∧ (∀ i, w1.frozen? ⟨p, i, none⟩ = false) ∧
    OutAt (w1.setCell ⟨p, 0, none⟩ v') base p v' (bs ++ [0]) n ∧ Chg (fun k => k = p ∨ v.ownBlock = some k) w (w1.setCell ⟨p, 0, none⟩ v') := by
  have hlt : p < w.heap.size := (Array.getElem?_eq_some_iff.1 h.cells).1
  have e1 : w1.heap[p]? = some (.cells #[v, .int .i64 n] 146 (0, 0)) := by
    rw [hg.block p (by simp; omega) h.apart, Below.heap_alloc w o p hlt]; exact h.cells
  obtain ⟨c0, c1, cf⟩ := cells2 e1
  have hv' : some p ≠ v'.ownBlock := by
    intro e
    rcases hown.2 with ⟨hn, _⟩ | ⟨g', cap', cur, hv, hg, hh, _⟩
    · rw [hn] at e; cases e
    · rw [hv] at e
      injection e with e
      rw [e, hh] at e1
      simp at e1
  refine ⟨c0, c1, cf, ⟨heap_setCell_same w1 p 0 _ 146 _ e1, ownsRow_setCell_other hown (Ne.symm hv') _, h.low⟩, ?_⟩
  have b1 : Chg (fun k => k = p ∨ v.ownBlock = some k) w w1 := ((Chg.refl _ w).alloc _).grown hg (fun k hk _ => .inr hk)
  exact b1.setCell (fun _ => .inl rfl) _
theorem own_shape {w : World} {base : Nat} {e : TypeId} {v : Value} {n : Nat} {xs : List Value} (h : w.ownsRow base e 1 v n xs) : ∃ a c, v = .slice a n c := by
  rcases h.2 with ⟨e, h0⟩ | ⟨g, cap, cur, hv, _⟩
  · exact ⟨none, 0, by rw [e, h0]⟩
  · exact ⟨_, cap, hv⟩

set_option maxHeartbeats 4000000 in
theorem put_t (w : World) (base p : Nat) (v : Value) (bs : List UInt8) (n q k : Nat) (hn : n = 8 * q + k) (_hk : k < 8) (h : OutAt w base p v bs n) (hlen : bs.length = (n + 7) / 8) (hmax : n < 524288) (hbase : base ≤ w.heap.size) (u : Nat) (hu : u ≤ 1) :
    Calls Try.prog 93 #[.pointer (some ⟨p, 0, none⟩), .int .u8 u] w fun e w' => e = .returned (.tuple #[]) ∧ ∃ v', OutAt w' base p v' (putB bs q k u) (n + 1) ∧ Chg (fun k => k = p ∨ v.ownBlock = some k) w w' ∧ (∀ k, v'.ownBlock = some k → v.ownBlock = some k ∨ w.heap.size ≤ k) := by
  obtain ⟨h0, h1, hf⟩ := cells2 h.cells
  rcases (by omega : k = 0 ∨ k = 1 ∨ k = 2 ∨ k = 3 ∨ k = 4 ∨ k = 5 ∨ k = 6 ∨ k = 7) with rfl | rfl | rfl | rfl | rfl | rfl | rfl | rfl
  · subst hn
    obtain ⟨va, vc, rfl⟩ := own_shape h.own
    have H := hid h
    have hq : bs.length = q := by omega
    have HB := hid (show putB bs q 0 u = bs ++ [0 ||| UInt8.ofNat (u * 128)] from rfl)
    have HO := hid (u8or 0 (u * 128) (by omega))
    have hb8 : bs.length + 1 ≤ 1099511627776 := by omega
    have hdiv : (8 * (q : Int)).tdiv 8 = q := by rw [Int.tdiv_eq_ediv_of_nonneg (by omega)]; omega
    have hmod : (8 * (q : Int)).tmod 8 = 0 := by rw [Int.tmod_eq_emod_of_nonneg (by omega)]; omega
    have hw6 : IntKind.i64.wrap 7 = 7 := by decide
    have hwr : IntKind.i64.wrap (q : Int) = q := by rw [IntKind.wrap_i64]; omega
    have hwn : IntKind.i64.wrap (8 * (q : Int) + 1) = 8 * (q : Int) + 1 := by rw [IntKind.wrap_i64]; omega
    have HQ := hid hq
    have HL := hid hlen
    clear hlen h hq
    generalize putB bs q 0 u = zz at *
    go_enter Try.func93, Try.ntmps93
    obtain ⟨i5, hi5, hz5, hs5, hb5⟩ := T22.info
    go_wp2_with (at_builtin; refine wpList_append_lies _ rfl _ _ 22 rfl base 5 i5 (.int .u8 0) 1 1 T22.under hi5 hz5 hs5 hb5 rfl (by decide) _ _ _ rfl (H.out.own.alloc _) ⟨w.heap.size, 0, none⟩ 1 1 [B 0] rfl rfl ?c1 ?c2 (by decide) ?c3 ?c4 ?c5 (w.heap.size + 1) ?c6 ?c7)
    case c1 => exact World.news_of_block (cs := #[B 0]) (t := 5) (fr := (0, 0)) (heap_alloc_new w _)
    case c2 => intro u hu; simp at hu; subst hu; rfl
    case c3 => unfold maxLen; omega
    case c4 => omega
    case c5 => simp; omega
    case c6 => simp
    case c7 =>
      intro g cap w1 hown' hg' hat _
      obtain ⟨L, hql, hlen2, HLq⟩ : ∃ L, q < L ∧ (bs ++ [0]).length = L ∧ Hid (L = q + 1) := ⟨q + 1, by omega, by rw [List.length_append, HQ.out]; rfl, rfl⟩
      have hL1 : bs.length + 1 = L := by rw [← hlen2, List.length_append]; rfl
      rw [hL1] at hown' ⊢
      have hown2 : w1.ownsRow base 5 1 (.slice (some ⟨g, 0, none⟩) L cap) (bs ++ [0]).length ((bs ++ [0]).map B) := by rw [hlen2, List.map_append]; exact hown'
      obtain ⟨d0, d1, df, ho, hbl⟩ := grow_out H.out hg' hown2
      have HAT := hid hat
      have HSW := hid hg'.size
      have H2 := hid ho
      have HBL := hid hbl
      clear hown' hg' hown2 ho hbl hat
      have HLN := hid hlen2
      clear hlen2
      go_wp2_with fail
      generalize w1.setCell ⟨p, 0, none⟩ (.slice (some ⟨g, 0, none⟩) L cap) = w2 at *
      have hlen2 := HLN.out
      obtain ⟨e0, e1, ef⟩ := cells2 H2.out.cells
      have hcl : w2.cell? ⟨g, q, none⟩ = some (B 0) := by
        have h3 := H2.out.own
        rw [hlen2] at h3
        have := h3.cellAt q (by omega)
        rw [this, List.map_append, List.getElem?_append_right (by rw [List.length_map, HQ.out]; exact Nat.le_refl _)]
        simp [HQ.out]
      have hfz : w2.frozen? ⟨g, q, none⟩ = false := by
        have h3 := H2.out.own
        rw [hlen2] at h3
        exact h3.frozenAt q
      have HP := hid (fun y => put_out (q := q) (y := y) (hlen2 ▸ H2.out))
      have hne : g ≠ p := (hlen2 ▸ H2.out : OutAt w2 base p (.slice (some ⟨g, 0, none⟩) (bs ++ [0]).length cap) (bs ++ [0]) (8 * q)).ne
      clear hlen2 d0 d1 df
      go_still_tail 21, (by kernel_rfl)
      change wpList _ _ _ _ _ w2.drew
      go_wp2
      go_end0
      have hset : ∀ y, (bs ++ [0]).set q y = bs ++ [y] := fun y => by
        rw [List.set_append_right _ _ (by rw [HQ.out]; exact Nat.le_refl _), HQ.out, Nat.sub_self]; rfl
      have hval : bits .or .u8 0 ((u : Int) * 128) = ((0 ||| UInt8.ofNat (u * 128)).toNat : Int) := by
        have := HO.out
        rw [Int.natCast_mul] at this
        exact this
      have hp := HP.out (0 ||| UInt8.ofNat (u * 128))
      rw [hset] at hp
      first | rw [hval] | skip
      rw [HB.out]
      refine ⟨rfl, _, hp.1, HBL.out.trans hp.2 (fun k hk e => ?_), fun k hk => ?_⟩
      · rcases e with e | e
        · exact .inl e
        · have e' : k = g := by simpa using e
          rcases HAT.out with ht | ht
          · exact .inr (by rw [ht, e'])
          · omega
      · have e' : g = k := by simpa [Value.ownBlock] using hk
        rcases HAT.out with ht | ht
        · exact .inl (by rw [ht, e'])
        · exact .inr (by omega)
  · subst hn
    have H := hid h
    obtain ⟨g, cap, rfl⟩ := own_some h.own (by omega)
    have hql : q < bs.length := by omega
    have hcl : w.cell? ⟨g, q, none⟩ = some (B (bs.getD q 0)) := by
      have := h.own.cellAt q (by simpa using hql)
      rw [this]; simp [hql]
    have hfz := h.own.frozenAt q
    have hne : g ≠ p := h.ne
    have HP := hid (fun y => put_out (q := q) (y := y) h)
    have hdiv : (8 * (q : Int) + 1).tdiv 8 = q := by rw [Int.tdiv_eq_ediv_of_nonneg (by omega)]; omega
    have hmod : (8 * (q : Int) + 1).tmod 8 = 1 := by rw [Int.tmod_eq_emod_of_nonneg (by omega)]; omega
    have hw6 : IntKind.i64.wrap 6 = 6 := by decide
    have hwr : IntKind.i64.wrap (q : Int) = q := by rw [IntKind.wrap_i64]; omega
    have hwn : IntKind.i64.wrap (8 * (q : Int) + 1 + 1) = 8 * (q : Int) + 1 + 1 := by rw [IntKind.wrap_i64]; omega
    have HB := hid (show putB bs q 1 u = bs.set q (bs.getD q 0 ||| UInt8.ofNat (u * 64)) from rfl)
    have HO := hid (u8or (bs.getD q 0) (u * 64) (by omega))
    have HL := hid hlen
    generalize putB bs q 1 u = zz at *
    generalize bs.getD q 0 = x at *
    generalize hLL : bs.length = L at *
    have HLL := hid hLL
    clear hlen h hLL
    go_enter Try.func93, Try.ntmps93
    go_wp2_with fail
    go_still_tail 21, (by kernel_rfl)
    change wpList _ _ _ _ _ w.drew
    go_wp2
    go_end0
    have hval : bits .or .u8 (x.toNat : Int) ((u : Int) * 64) = ((x ||| UInt8.ofNat (u * 64)).toNat : Int) := by
      have := HO.out
      rw [Int.natCast_mul] at this
      exact this
    skip
    rw [hval, HB.out]
    exact ⟨rfl, _, (HP.out _).1, (HP.out _).2.mono (fun k _ e => e.elim .inl (fun e => .inr e.symm)), fun k hk => .inl hk⟩
  · subst hn
    have H := hid h
    obtain ⟨g, cap, rfl⟩ := own_some h.own (by omega)
    have hql : q < bs.length := by omega
    have hcl : w.cell? ⟨g, q, none⟩ = some (B (bs.getD q 0)) := by
      have := h.own.cellAt q (by simpa using hql)
      rw [this]; simp [hql]
    have hfz := h.own.frozenAt q
    have hne : g ≠ p := h.ne
    have HP := hid (fun y => put_out (q := q) (y := y) h)
    have hdiv : (8 * (q : Int) + 2).tdiv 8 = q := by rw [Int.tdiv_eq_ediv_of_nonneg (by omega)]; omega
    have hmod : (8 * (q : Int) + 2).tmod 8 = 2 := by rw [Int.tmod_eq_emod_of_nonneg (by omega)]; omega
    have hw6 : IntKind.i64.wrap 5 = 5 := by decide
    have hwr : IntKind.i64.wrap (q : Int) = q := by rw [IntKind.wrap_i64]; omega
    have hwn : IntKind.i64.wrap (8 * (q : Int) + 2 + 1) = 8 * (q : Int) + 2 + 1 := by rw [IntKind.wrap_i64]; omega
    have HB := hid (show putB bs q 2 u = bs.set q (bs.getD q 0 ||| UInt8.ofNat (u * 32)) from rfl)
    have HO := hid (u8or (bs.getD q 0) (u * 32) (by omega))
    have HL := hid hlen
    generalize putB bs q 2 u = zz at *
    generalize bs.getD q 0 = x at *
    generalize hLL : bs.length = L at *
    have HLL := hid hLL
    clear hlen h hLL
    go_enter Try.func93, Try.ntmps93
    go_wp2_with fail
    go_still_tail 21, (by kernel_rfl)
    change wpList _ _ _ _ _ w.drew
    go_wp2
    go_end0
    have hval : bits .or .u8 (x.toNat : Int) ((u : Int) * 32) = ((x ||| UInt8.ofNat (u * 32)).toNat : Int) := by
      have := HO.out
      rw [Int.natCast_mul] at this
      exact this
    skip
    rw [hval, HB.out]
    exact ⟨rfl, _, (HP.out _).1, (HP.out _).2.mono (fun k _ e => e.elim .inl (fun e => .inr e.symm)), fun k hk => .inl hk⟩
  · subst hn
    have H := hid h
    obtain ⟨g, cap, rfl⟩ := own_some h.own (by omega)
    have hql : q < bs.length := by omega
    have hcl : w.cell? ⟨g, q, none⟩ = some (B (bs.getD q 0)) := by
      have := h.own.cellAt q (by simpa using hql)
      rw [this]; simp [hql]
    have hfz := h.own.frozenAt q
    have hne : g ≠ p := h.ne
    have HP := hid (fun y => put_out (q := q) (y := y) h)
    have hdiv : (8 * (q : Int) + 3).tdiv 8 = q := by rw [Int.tdiv_eq_ediv_of_nonneg (by omega)]; omega
    have hmod : (8 * (q : Int) + 3).tmod 8 = 3 := by rw [Int.tmod_eq_emod_of_nonneg (by omega)]; omega
    have hw6 : IntKind.i64.wrap 4 = 4 := by decide
    have hwr : IntKind.i64.wrap (q : Int) = q := by rw [IntKind.wrap_i64]; omega
    have hwn : IntKind.i64.wrap (8 * (q : Int) + 3 + 1) = 8 * (q : Int) + 3 + 1 := by rw [IntKind.wrap_i64]; omega
    have HB := hid (show putB bs q 3 u = bs.set q (bs.getD q 0 ||| UInt8.ofNat (u * 16)) from rfl)
    have HO := hid (u8or (bs.getD q 0) (u * 16) (by omega))
    have HL := hid hlen
    generalize putB bs q 3 u = zz at *
    generalize bs.getD q 0 = x at *
    generalize hLL : bs.length = L at *
    have HLL := hid hLL
    clear hlen h hLL
    go_enter Try.func93, Try.ntmps93
    go_wp2_with fail
    go_still_tail 21, (by kernel_rfl)
    change wpList _ _ _ _ _ w.drew
    go_wp2
    go_end0
    have hval : bits .or .u8 (x.toNat : Int) ((u : Int) * 16) = ((x ||| UInt8.ofNat (u * 16)).toNat : Int) := by
      have := HO.out
      rw [Int.natCast_mul] at this
      exact this
    skip
    rw [hval, HB.out]
    exact ⟨rfl, _, (HP.out _).1, (HP.out _).2.mono (fun k _ e => e.elim .inl (fun e => .inr e.symm)), fun k hk => .inl hk⟩
  · subst hn
    have H := hid h
    obtain ⟨g, cap, rfl⟩ := own_some h.own (by omega)
    have hql : q < bs.length := by omega
    have hcl : w.cell? ⟨g, q, none⟩ = some (B (bs.getD q 0)) := by
      have := h.own.cellAt q (by simpa using hql)
      rw [this]; simp [hql]
    have hfz := h.own.frozenAt q
    have hne : g ≠ p := h.ne
    have HP := hid (fun y => put_out (q := q) (y := y) h)
    have hdiv : (8 * (q : Int) + 4).tdiv 8 = q := by rw [Int.tdiv_eq_ediv_of_nonneg (by omega)]; omega
    have hmod : (8 * (q : Int) + 4).tmod 8 = 4 := by rw [Int.tmod_eq_emod_of_nonneg (by omega)]; omega
    have hw6 : IntKind.i64.wrap 3 = 3 := by decide
    have hwr : IntKind.i64.wrap (q : Int) = q := by rw [IntKind.wrap_i64]; omega
    have hwn : IntKind.i64.wrap (8 * (q : Int) + 4 + 1) = 8 * (q : Int) + 4 + 1 := by rw [IntKind.wrap_i64]; omega
    have HB := hid (show putB bs q 4 u = bs.set q (bs.getD q 0 ||| UInt8.ofNat (u * 8)) from rfl)
    have HO := hid (u8or (bs.getD q 0) (u * 8) (by omega))
    have HL := hid hlen
    generalize putB bs q 4 u = zz at *
    generalize bs.getD q 0 = x at *
    generalize hLL : bs.length = L at *
    have HLL := hid hLL
    clear hlen h hLL
    go_enter Try.func93, Try.ntmps93
    go_wp2_with fail
    go_still_tail 21, (by kernel_rfl)
    change wpList _ _ _ _ _ w.drew
    go_wp2
    go_end0
    have hval : bits .or .u8 (x.toNat : Int) ((u : Int) * 8) = ((x ||| UInt8.ofNat (u * 8)).toNat : Int) := by
      have := HO.out
      rw [Int.natCast_mul] at this
      exact this
    skip
    rw [hval, HB.out]
    exact ⟨rfl, _, (HP.out _).1, (HP.out _).2.mono (fun k _ e => e.elim .inl (fun e => .inr e.symm)), fun k hk => .inl hk⟩
  · subst hn
    have H := hid h
    obtain ⟨g, cap, rfl⟩ := own_some h.own (by omega)
    have hql : q < bs.length := by omega
    have hcl : w.cell? ⟨g, q, none⟩ = some (B (bs.getD q 0)) := by
      have := h.own.cellAt q (by simpa using hql)
      rw [this]; simp [hql]
    have hfz := h.own.frozenAt q
    have hne : g ≠ p := h.ne
    have HP := hid (fun y => put_out (q := q) (y := y) h)
    have hdiv : (8 * (q : Int) + 5).tdiv 8 = q := by rw [Int.tdiv_eq_ediv_of_nonneg (by omega)]; omega
    have hmod : (8 * (q : Int) + 5).tmod 8 = 5 := by rw [Int.tmod_eq_emod_of_nonneg (by omega)]; omega
    have hw6 : IntKind.i64.wrap 2 = 2 := by decide
    have hwr : IntKind.i64.wrap (q : Int) = q := by rw [IntKind.wrap_i64]; omega
    have hwn : IntKind.i64.wrap (8 * (q : Int) + 5 + 1) = 8 * (q : Int) + 5 + 1 := by rw [IntKind.wrap_i64]; omega
    have HB := hid (show putB bs q 5 u = bs.set q (bs.getD q 0 ||| UInt8.ofNat (u * 4)) from rfl)
    have HO := hid (u8or (bs.getD q 0) (u * 4) (by omega))
    have HL := hid hlen
    generalize putB bs q 5 u = zz at *
    generalize bs.getD q 0 = x at *
    generalize hLL : bs.length = L at *
    have HLL := hid hLL
    clear hlen h hLL
    go_enter Try.func93, Try.ntmps93
    go_wp2_with fail
    go_still_tail 21, (by kernel_rfl)
    change wpList _ _ _ _ _ w.drew
    go_wp2
    go_end0
    have hval : bits .or .u8 (x.toNat : Int) ((u : Int) * 4) = ((x ||| UInt8.ofNat (u * 4)).toNat : Int) := by
      have := HO.out
      rw [Int.natCast_mul] at this
      exact this
    skip
    rw [hval, HB.out]
    exact ⟨rfl, _, (HP.out _).1, (HP.out _).2.mono (fun k _ e => e.elim .inl (fun e => .inr e.symm)), fun k hk => .inl hk⟩
  · subst hn
    have H := hid h
    obtain ⟨g, cap, rfl⟩ := own_some h.own (by omega)
    have hql : q < bs.length := by omega
    have hcl : w.cell? ⟨g, q, none⟩ = some (B (bs.getD q 0)) := by
      have := h.own.cellAt q (by simpa using hql)
      rw [this]; simp [hql]
    have hfz := h.own.frozenAt q
    have hne : g ≠ p := h.ne
    have HP := hid (fun y => put_out (q := q) (y := y) h)
    have hdiv : (8 * (q : Int) + 6).tdiv 8 = q := by rw [Int.tdiv_eq_ediv_of_nonneg (by omega)]; omega
    have hmod : (8 * (q : Int) + 6).tmod 8 = 6 := by rw [Int.tmod_eq_emod_of_nonneg (by omega)]; omega
    have hw6 : IntKind.i64.wrap 1 = 1 := by decide
    have hwr : IntKind.i64.wrap (q : Int) = q := by rw [IntKind.wrap_i64]; omega
    have hwn : IntKind.i64.wrap (8 * (q : Int) + 6 + 1) = 8 * (q : Int) + 6 + 1 := by rw [IntKind.wrap_i64]; omega
    have HB := hid (show putB bs q 6 u = bs.set q (bs.getD q 0 ||| UInt8.ofNat (u * 2)) from rfl)
    have HO := hid (u8or (bs.getD q 0) (u * 2) (by omega))
    have HL := hid hlen
    generalize putB bs q 6 u = zz at *
    generalize bs.getD q 0 = x at *
    generalize hLL : bs.length = L at *
    have HLL := hid hLL
    clear hlen h hLL
    go_enter Try.func93, Try.ntmps93
    go_wp2_with fail
    go_still_tail 21, (by kernel_rfl)
    change wpList _ _ _ _ _ w.drew
    go_wp2
    go_end0
    have hval : bits .or .u8 (x.toNat : Int) ((u : Int) * 2) = ((x ||| UInt8.ofNat (u * 2)).toNat : Int) := by
      have := HO.out
      rw [Int.natCast_mul] at this
      exact this
    skip
    rw [hval, HB.out]
    exact ⟨rfl, _, (HP.out _).1, (HP.out _).2.mono (fun k _ e => e.elim .inl (fun e => .inr e.symm)), fun k hk => .inl hk⟩
  · subst hn
    have H := hid h
    obtain ⟨g, cap, rfl⟩ := own_some h.own (by omega)
    have hql : q < bs.length := by omega
    have hcl : w.cell? ⟨g, q, none⟩ = some (B (bs.getD q 0)) := by
      have := h.own.cellAt q (by simpa using hql)
      rw [this]; simp [hql]
    have hfz := h.own.frozenAt q
    have hne : g ≠ p := h.ne
    have HP := hid (fun y => put_out (q := q) (y := y) h)
    have hdiv : (8 * (q : Int) + 7).tdiv 8 = q := by rw [Int.tdiv_eq_ediv_of_nonneg (by omega)]; omega
    have hmod : (8 * (q : Int) + 7).tmod 8 = 7 := by rw [Int.tmod_eq_emod_of_nonneg (by omega)]; omega
    have hw6 : IntKind.i64.wrap 0 = 0 := by decide
    have hwr : IntKind.i64.wrap (q : Int) = q := by rw [IntKind.wrap_i64]; omega
    have hwn : IntKind.i64.wrap (8 * (q : Int) + 7 + 1) = 8 * (q : Int) + 7 + 1 := by rw [IntKind.wrap_i64]; omega
    have HB := hid (show putB bs q 7 u = bs.set q (bs.getD q 0 ||| UInt8.ofNat (u * 1)) from rfl)
    have HO := hid (u8or (bs.getD q 0) (u * 1) (by omega))
    have HL := hid hlen
    generalize putB bs q 7 u = zz at *
    generalize bs.getD q 0 = x at *
    generalize hLL : bs.length = L at *
    have HLL := hid hLL
    clear hlen h hLL
    go_enter Try.func93, Try.ntmps93
    go_wp2_with fail
    go_still_tail 21, (by kernel_rfl)
    change wpList _ _ _ _ _ w.drew
    go_wp2
    go_end0
    have hval : bits .or .u8 (x.toNat : Int) ((u : Int) * 1) = ((x ||| UInt8.ofNat (u * 1)).toNat : Int) := by
      have := HO.out
      rw [Int.natCast_mul] at this
      exact this
    try simp only [Int.mul_one] at hval
    rw [hval, HB.out]
    exact ⟨rfl, _, (HP.out _).1, (HP.out _).2.mono (fun k _ e => e.elim .inl (fun e => .inr e.symm)), fun k hk => .inl hk⟩
/-- The state behind t bits of x, of 8 m of them. -/
def stB (bs : List UInt8) (m x : Nat) : Nat → List UInt8
  | 0 => bs
  | t + 1 => putB (stB bs m x t) (bs.length + t / 8) (t % 8) (x / 2 ^ (8 * m - 1 - t) % 2)
theorem stB_len (bs : List UInt8) (m x t : Nat) : (stB bs m x t).length = bs.length + (t + 7) / 8 := by
  induction t with
  | zero => rfl
  | succ t ih =>
    show (putB _ _ _ _).length = _
    unfold putB
    by_cases h : t % 8 = 0
    · rw [if_pos h, List.length_append, ih]; simp; omega
    · rw [if_neg h, List.length_set, ih]; omega
/-- The bytes of a number, the highest first. -/
def be (m x : Nat) : List UInt8 := (List.range m).map fun j => UInt8.ofNat (x / 256 ^ (m - 1 - j) % 256)
def byte8 (b : Nat → Nat) : UInt8 :=
  (((((((0 ||| UInt8.ofNat (b 0 * 128)) ||| UInt8.ofNat (b 1 * 64)) ||| UInt8.ofNat (b 2 * 32)) ||| UInt8.ofNat (b 3 * 16)) ||| UInt8.ofNat (b 4 * 8)) ||| UInt8.ofNat (b 5 * 4)) ||| UInt8.ofNat (b 6 * 2)) ||| UInt8.ofNat (b 7 * 1)
theorem byte8_eq : ∀ c : Fin 256, byte8 (fun i => c.val / 2 ^ (7 - i) % 2) = UInt8.ofNat c.val := by decide +kernel
theorem set_last (bs : List UInt8) (x y : UInt8) (q : Nat) (h : q = bs.length) : (bs ++ [x]).set q y = bs ++ [y] ∧ (bs ++ [x]).getD q 0 = x := by
  subst h
  constructor
  · rw [List.set_append_right _ _ (Nat.le_refl _), Nat.sub_self]; rfl
  · simp [List.getD_eq_getElem?_getD]
theorem eight (bs cs : List UInt8) (m x j : Nat) (hj : j < m) (h : stB bs m x (8 * j) = bs ++ cs) (hc : cs.length = j) : stB bs m x (8 * (j + 1)) = bs ++ (cs ++ [UInt8.ofNat (x / 256 ^ (m - 1 - j) % 256)]) := by
  have hq : bs.length + j = (bs ++ cs).length := by rw [List.length_append, hc]
  have hb : ∀ i, i < 8 → x / 2 ^ (8 * m - 1 - (8 * j + i)) % 2 = (x / 256 ^ (m - 1 - j) % 256) / 2 ^ (7 - i) % 2 := by
    intro i hi
    have e1 : 8 * m - 1 - (8 * j + i) = 8 * (m - 1 - j) + (7 - i) := by omega
    rw [e1, Nat.pow_add, ← Nat.div_div_eq_div_mul, Nat.pow_mul]
    generalize x / (2 ^ 8) ^ (m - 1 - j) = y
    show y / 2 ^ (7 - i) % 2 = _
    have hy : y = 256 * (y / 256) + y % 256 := by omega
    rcases (by omega : i = 0 ∨ i = 1 ∨ i = 2 ∨ i = 3 ∨ i = 4 ∨ i = 5 ∨ i = 6 ∨ i = 7) with rfl | rfl | rfl | rfl | rfl | rfl | rfl | rfl <;> simp <;> omega
  have s : ∀ i, i < 8 → stB bs m x (8 * j + (i + 1)) = putB (stB bs m x (8 * j + i)) (bs.length + j) i ((x / 256 ^ (m - 1 - j) % 256) / 2 ^ (7 - i) % 2) := by
    intro i hi
    rw [← hb i hi]
    have e : stB bs m x (8 * j + i + 1) = putB (stB bs m x (8 * j + i)) (bs.length + (8 * j + i) / 8) ((8 * j + i) % 8) (x / 2 ^ (8 * m - 1 - (8 * j + i)) % 2) := rfl
    rw [show 8 * j + (i + 1) = 8 * j + i + 1 from rfl, e, show (8 * j + i) / 8 = j by omega, show (8 * j + i) % 8 = i by omega]
  have hlt : x / 256 ^ (m - 1 - j) % 256 < 256 := Nat.mod_lt _ (by decide)
  generalize x / 256 ^ (m - 1 - j) % 256 = c at *
  rw [show 8 * (j + 1) = 8 * j + (7 + 1) by omega, s 7 (by omega), show 8 * j + 7 = 8 * j + (6 + 1) by omega, s 6 (by omega), show 8 * j + 6 = 8 * j + (5 + 1) by omega, s 5 (by omega),
    show 8 * j + 5 = 8 * j + (4 + 1) by omega, s 4 (by omega), show 8 * j + 4 = 8 * j + (3 + 1) by omega, s 3 (by omega), show 8 * j + 3 = 8 * j + (2 + 1) by omega, s 2 (by omega),
    show 8 * j + 2 = 8 * j + (1 + 1) by omega, s 1 (by omega), show 8 * j + 1 = 8 * j + (0 + 1) by omega, s 0 (by omega), Nat.add_zero, h]
  have hfin := byte8_eq ⟨c, hlt⟩
  rw [← List.append_assoc, ← hfin]
  unfold byte8
  generalize bs ++ cs = l at *
  simp only [putB, if_true, if_false, (set_last l _ _ _ hq).1, (set_last l _ 0 _ hq).2, Nat.succ_ne_zero]
theorem stB_all (bs : List UInt8) (m x : Nat) : stB bs m x (8 * m) = bs ++ be m x := by
  have : ∀ j, j ≤ m → stB bs m x (8 * j) = bs ++ ((List.range j).map fun j => UInt8.ofNat (x / 256 ^ (m - 1 - j) % 256)) := by
    intro j
    induction j with
    | zero => intro _; simp [stB]
    | succ j ih =>
      intro hj
      rw [eight bs _ m x j (by omega) (ih (by omega)) (by simp), List.range_succ, List.map_append]
      rfl
  exact this m (Nat.le_refl _)
def bes (m : Nat) (xs : List Nat) : List UInt8 := (xs.map (be m)).flatten
theorem be_len (m x : Nat) : (be m x).length = m := by simp [be]
theorem bes_snoc (m : Nat) (xs : List Nat) (x : Nat) : bes m (xs ++ [x]) = bes m xs ++ be m x := by simp [bes]
theorem bes_len (m : Nat) (xs : List Nat) : (bes m xs).length = m * xs.length := by
  induction xs with
  | nil => rfl
  | cons x xs ih => show (be m x ++ bes m xs).length = _; rw [List.length_append, be_len, ih, List.length_cons, Nat.mul_succ]; omega
abbrev N64 (x : Nat) : Value := .int .u64 x
theorem RdV.chgV {w w' : World} {lv : Value} {vs : List Value} {S : Nat → Prop} (h : RdV w lv vs) (c : Chg S w w') (hn : ∀ g, lv.ownBlock = some g → ¬ S g) : RdV w' lv vs := by
  obtain ⟨a, c', rfl, hh⟩ := h
  refine ⟨a, c', rfl, fun j u hu => ?_⟩
  obtain ⟨g, off, rfl, hc⟩ := hh j u hu
  exact ⟨g, off, rfl, c.cell hc (hn g rfl)⟩
theorem bit_val (x k : Nat) (hx : x < 18446744073709551616) : bits .and .u64 ((x : Int) / 2 ^ k) 1 % 256 = ((x / 2 ^ k % 2 : Nat) : Int) := by
  have e : ((x : Int) / 2 ^ k) = ((x / 2 ^ k : Nat) : Int) := by rw [Int.natCast_ediv]; simp
  have hle : x / 2 ^ k ≤ x := Nat.div_le_self _ _
  rw [e]
  have := u64_and_nat (x / 2 ^ k) 1 (by omega) (by omega)
  rw [show (1 : Int) = ((1 : Nat) : Int) from rfl, this, Nat.and_one_is_mod]
  omega
set_option maxHeartbeats 4000000 in
theorem bits_t (w : World) (base p : Nat) (v : Value) (bs : List UInt8) (h : OutAt w base p v bs (8 * bs.length)) (hbase : base ≤ w.heap.size) (m : Nat) (hm1 : 1 ≤ m) (hm8 : m ≤ 8)
    (lv : Value) (xs : List Nat) (hx : RdV w lv (xs.map N64)) (hxb : ∀ g, lv.ownBlock = some g → ¬ (g = p ∨ v.ownBlock = some g)) (hxr : ∀ x ∈ xs, x < 18446744073709551616) (hroom : bs.length + m * xs.length ≤ 65536) (hxl : xs.length ≤ 65536) :
    Calls Try.prog 84 #[.pointer (some ⟨p, 0, none⟩), .int .i64 (8 * m : Nat), lv] w fun e w' => e = .returned (.int .i64 0) ∧ ∃ v', OutAt w' base p v' (bs ++ bes m xs) (8 * (bs ++ bes m xs).length) ∧
      Chg (fun k => k = p ∨ v.ownBlock = some k) w w' ∧ (∀ k, v'.ownBlock = some k → v.ownBlock = some k ∨ w.heap.size ≤ k) := by
  have H := hid h
  have HX := hid hx
  have HXB := hid hxb
  have HXR := hid hxr
  obtain ⟨xa, xc, rfl, _⟩ := hx
  have hll : (xs.map N64).length = xs.length := List.length_map _
  rw [hll] at HX HXB ⊢
  clear hxb hxr h hll
  have hmul : 8 * m * xs.length + 8 * bs.length ≤ 524288 := by
    have : 8 * m * xs.length = 8 * (m * xs.length) := Nat.mul_assoc _ _ _
    omega
  obtain ⟨M, hM⟩ : ∃ M, 8 * m * xs.length = M := ⟨_, rfl⟩
  have hMI : ((8 * m : Nat) : Int) * (xs.length : Int) = (M : Int) := by rw [← hM]; exact (Int.natCast_mul _ _).symm
  have HM := hid hM
  obtain ⟨Wd, hWd⟩ : ∃ Wd, 8 * m = Wd := ⟨_, rfl⟩
  have HW := hid hWd
  rw [hM] at hmul
  rw [hWd] at hMI ⊢
  clear hM
  have hw1 : 1 ≤ Wd := by omega
  have hw2 : Wd ≤ 64 := by omega
  clear hWd
  go_enter Try.func84, Try.ntmps84
  go_wp2_with fail
  refine (room_t w base p v bs (8 * bs.length) H.out (by omega) M (by omega)).mono ?_
  rintro e w' ⟨he, rfl⟩
  obtain rfl : e = .returned (.bool true) := by rw [he, decide_eq_true (by omega)]
  go_wp2_with fail
  go_loopw [35] (fun j wr => ∃ i : Nat, j = .int .i64 i ∧ i ≤ xs.length ∧ ∃ v', OutAt wr base p v' (bs ++ bes m (xs.take i)) (8 * (bs ++ bes m (xs.take i)).length) ∧
    Chg (fun k => k = p ∨ v.ownBlock = some k) w wr ∧ (∀ k, v'.ownBlock = some k → v.ownBlock = some k ∨ w.heap.size ≤ k)) (fun j _ => xs.length - (intOf j).toNat)
  case atStart => exact ⟨0, rfl, by omega, v, by simpa [bes] using H.out, Chg.refl _ _, fun k hk => .inl hk⟩
  case round =>
    obtain ⟨i, rfl, hi, v1, ho, hc, hvb⟩ := hrel
    have H1 := hid ho
    have C1 := hid hc
    have V1 := hid hvb
    clear ho hc hvb
    by_cases hlt : i < xs.length
    · obtain ⟨_, _, hsl, hcell⟩ := HX.out.chgV C1.out HXB.out
      injection hsl with e1 e2 e3
      clear e2
      subst e1 e3
      obtain ⟨g, off, rfl, hv⟩ := hcell i (N64 xs[i]) (by rw [List.getElem?_map, List.getElem?_eq_getElem hlt]; rfl)
      have hxr := HXR.out xs[i] (List.getElem_mem hlt)
      have HS := hid (take_snoc hlt)
      have hcl : (bs ++ bes m (xs.take i)).length + m ≤ 65536 := by
        rw [List.length_append, bes_len, List.length_take, Nat.min_eq_left hi]
        have h2 : m * (i + 1) ≤ m * xs.length := Nat.mul_le_mul_left _ hlt
        rw [Nat.mul_succ] at h2
        omega
      generalize xs[i] = x at *
      obtain ⟨cs, hcs⟩ : ∃ cs, bs ++ bes m (xs.take i) = cs := ⟨_, rfl⟩
      have HCS := hid hcs
      rw [hcs] at H1 hcl
      clear hcell hcs
      go_wp2_with fail
      go_loopw [9] (fun z wt => ∃ t : Nat, z = .int .i64 ((Wd : Int) - 1 - t) ∧ t ≤ Wd ∧ ∃ v', OutAt wt base p v' (stB cs m x t) (8 * cs.length + t) ∧
        Chg (fun k => k = p ∨ v.ownBlock = some k) w wt ∧ (∀ k, v'.ownBlock = some k → v.ownBlock = some k ∨ w.heap.size ≤ k)) (fun z _ => (intOf z + 1).toNat)
      case atStart => exact ⟨0, by go_num, by omega, v1, H1.out, C1.out, V1.out⟩
      case round =>
        obtain ⟨t, rfl, ht, v2, ho, hc, hvb⟩ := hrel
        have H2 := hid ho
        have C2 := hid hc
        have V2 := hid hvb
        clear ho hc hvb
        by_cases htl : t < Wd
        · go_wp2_with fail
          rw [bit_val x _ hxr]
          have HN := hid (stB_len cs m x t)
          have HST := hid (show stB cs m x (t + 1) = putB (stB cs m x t) (cs.length + t / 8) (t % 8) (x / 2 ^ (8 * m - 1 - t) % 2) from rfl)
          refine (put_t wr base p v2 (stB cs m x t) (8 * cs.length + t) (cs.length + t / 8) (t % 8) (by omega) (by omega) H2.out (by rw [HN.out]; omega) (by have := HW.out; omega) (Nat.le_trans hbase C2.out.size) (x / 2 ^ (Wd - 1 - t) % 2) (by omega)).mono ?_
          rintro e w3 ⟨rfl, v3, ho, hc, hvb⟩
          rw [← HW.out, ← HST.out] at ho
          have H3 := hid ho
          have C3 := hid (C2.out.trans hc (fun k hk e => by
            rcases e with e | e
            · exact .inl e
            · rcases V2.out k e with e | e
              · exact .inr e
              · omega))
          have V3 : Hid (∀ k, v3.ownBlock = some k → v.ownBlock = some k ∨ w.heap.size ≤ k) := fun k hk => by
            rcases hvb k hk with e | e
            · exact V2.out k e
            · exact .inr (Nat.le_trans C2.out.size e)
          clear ho hc hvb
          go_wp2
          refine ⟨⟨t + 1, by go_num, by omega, v3, H3.out, C3.out, V3.out⟩, by simp [intOf]; omega⟩
        · obtain rfl : t = Wd := by omega
          have H4 := H2.out
          rw [← HW.out, stB_all] at H4
          have hcl2 : 8 * cs.length + 8 * m = 8 * (bs ++ bes m (xs.take (i + 1))).length := by
            rw [HS.out, bes_snoc, ← List.append_assoc, HCS.out, List.length_append, be_len]; omega
          rw [hcl2, ← HCS.out, List.append_assoc, ← bes_snoc, ← HS.out] at H4
          have H5 := hid H4
          clear H4 hcl2
          go_wp2
          go_roundw
          case rel => exact ⟨i + 1, by go_num, by omega, v2, H5.out, C2.out, V2.out⟩
          case measure => simp [intOf]; omega
    · obtain rfl : i = xs.length := by omega
      rw [List.take_length] at H1
      go_wp2
      go_ret
      exact ⟨rfl, v1, H1.out, C1.out, V1.out⟩
end Go.Proofs.Ytjlmbmamkhneiaa.OutP
