-- OpC: printed by port.py from seat a's walks.
import Derived.Test.YtjlmbmamkhneiaaOpB
import Derived.Laws.Cover3
namespace Go.Proofs.Ytjlmbmamkhneiaa.OutP
open Go Go.RowKit
set_option maxRecDepth 100000
theorem eql_nil (w : World) (a : Option Addr) (l c : Nat) : (binOp .eql 22 (.slice a l c) (.slice none 0 0)).run Try.prog w = .ok (.bool a.isNone) w := by
  have h := run_equal_slice_nil (P := Try.prog) w 22 5 a l c T22.under
  simp only [binOp, Sem.run_bind, h, Result.andThen, Sem.run_pure]
theorem new_out (w : World) (base : Nat) (hbase : base ≤ w.heap.size) : OutAt (w.alloc (.cells #[.slice none 0 0, .int .i64 0] 146)) base w.heap.size (.slice none 0 0) [] 0 ∧
    Chg (fun _ => False) w (w.alloc (.cells #[.slice none 0 0, .int .i64 0] 146)) :=
  ⟨⟨heap_alloc_new w _, World.ownsRow_nil _ _ _ _, hbase⟩, (Chg.refl _ w).alloc _⟩
theorem new_t (w : World) (base : Nat) (hbase : base ≤ w.heap.size) : Calls Try.prog 83 #[.slice none 0 0] w fun e w' => e = .returned (.pointer (some ⟨w.heap.size, 0, none⟩)) ∧ OutAt w' base w.heap.size (.slice none 0 0) [] (8 * ([] : List UInt8).length) ∧ Chg (fun _ => False) w w' := by
  go_enter Try.func83, Try.ntmps83
  go_wp2
  go_loop [10] (fun j => j = .int .i64 0) (fun _ => 0)
  case atStart => rfl
  case round =>
    subst hrel
    go_wp2
    go_ret
    exact ⟨rfl, new_out w base hbase⟩
theorem clone_t (w : World) (v : Value) (bs : List UInt8) (h : Rd w v bs) (hl : bs.length ≤ 1048576) : Calls Try.prog 87 #[v] w fun e w' => ∃ r, e = .returned r ∧ w'.ownsRow w.heap.size 5 1 r bs.length (bs.map B) ∧ Chg (fun _ => False) w w' := by
  obtain ⟨a, c, rfl, hc, hm, hcell⟩ := h
  have H := hid (show Rd w (.slice a bs.length c) bs from ⟨a, c, rfl, hc, hm, hcell⟩)
  clear hcell
  cases a with
  | none =>
    have he := eql_nil w none bs.length c
    go_enter Try.func87, Try.ntmps87
    go_wp2
    go_ret
    have hb0 : bs = [] := by
      cases bs with
      | nil => rfl
      | cons b bs =>
        obtain ⟨_, _, e, _, _, hc⟩ := H.out
        obtain ⟨g, off, e2, _⟩ := hc 0 b rfl
        injection e with e1
        rw [← e1] at e2
        cases e2
    subst hb0
    exact ⟨.slice none 0 0, rfl, World.ownsRow_nil _ _ _ _, Chg.refl _ _⟩
  | some a =>
    have he := eql_nil w (some a) bs.length c
    go_enter Try.func87, Try.ntmps87
    go_wp2_with (at_builtin; refine wpl_append_bytes rfl _ _ 22 rfl T22 w.heap.size _ [] rfl (own_empty w _ 5 (Nat.le_refl _)) _ rfl bs (H.out.alloc _) ?c1 ?c2 ?c3)
    case c1 => simp; omega
    case c2 => exact Nat.le_of_lt (by simp)
    case c3 =>
      intro v1 w1 hown hg
      have HO := hid hown
      have HG := hid hg
      clear hown hg
      go_wp2
      go_ret
      exact ⟨v1, rfl, by simpa using HO.out, ((Chg.refl _ w).alloc _).grown HG.out (fun k hk hlt => by simp [Value.ownBlock] at hk; omega)⟩
theorem done_t (w : World) (base p : Nat) (v : Value) (bs : List UInt8) (n : Nat) (h : OutAt w base p v bs n) (hl : bs.length ≤ 1048576) : Calls Try.prog 86 #[.pointer (some ⟨p, 0, none⟩)] w fun e w' => ∃ r, e = .returned r ∧ w'.ownsRow w.heap.size 5 1 r bs.length (bs.map B) ∧ Chg (fun _ => False) w w' := by
  obtain ⟨h0, h1, hf⟩ := cells2 h.cells
  have hr := Rd.of_owns h.own
  have HR := hid hr
  obtain ⟨a, c, rfl⟩ := own_shape h.own
  clear hr h
  go_enter Try.func86, Try.ntmps86
  go_wp2_with fail
  refine (clone_t w _ bs HR.out hl).mono ?_
  rintro e w' ⟨r, rfl, ho, hc⟩
  have HO := hid ho
  have HC := hid hc
  clear ho hc
  go_wp2
  go_ret
  exact ⟨r, rfl, HO.out, HC.out⟩
theorem bes_byte (u : UInt8) : bes 1 [u.toNat] = [u] := by
  have := u.toNat_lt
  simp [bes, be, Nat.mod_eq_of_lt this]
theorem rdV_one (w : World) (u : Nat) : RdV (w.alloc (.cells #[.int .u64 u] 131)) (.slice (some ⟨w.heap.size, 0, none⟩) ([u].map N64).length ([u].map N64).length) ([u].map N64) :=
  ⟨_, _, rfl, fun j x hx => ⟨w.heap.size, 0, rfl, by rw [Nat.zero_add, cell_of_row _ _ _ _ _ _ (heap_alloc_new w _)]; simpa using hx⟩⟩
/-- What a callee that writes into the bits alone keeps. -/
def Kept (w : World) (p : Nat) (v : Value) (w' : World) (v' : Value) : Prop := Chg (fun k => k = p ∨ v.ownBlock = some k) w w' ∧ ∀ k, v'.ownBlock = some k → v.ownBlock = some k ∨ w.heap.size ≤ k
theorem Kept.refl (w : World) (p : Nat) (v : Value) : Kept w p v w v := ⟨Chg.refl _ _, fun _ h => .inl h⟩
theorem Kept.trans {w w1 w2 : World} {p : Nat} {v v1 v2 : Value} (a : Kept w p v w1 v1) (b : Kept w1 p v1 w2 v2) : Kept w p v w2 v2 := by
  refine ⟨a.1.trans b.1 (fun k hk e => ?_), fun k hk => ?_⟩
  · rcases e with e | e
    · exact .inl e
    · rcases a.2 k e with e | e
      · exact .inr e
      · omega
  · rcases b.2 k hk with e | e
    · exact a.2 k e
    · exact .inr (Nat.le_trans a.1.size e)
theorem Kept.alloc {w w1 : World} {p : Nat} {v v1 : Value} (a : Kept w p v w1 v1) (o : Obj) : Kept w p v (w1.alloc o) v1 := ⟨a.1.alloc o, a.2⟩
theorem OutAt.alloc {w : World} {base p n : Nat} {v : Value} {bs : List UInt8} (h : OutAt w base p v bs n) (o : Obj) : OutAt (w.alloc o) base p v bs n :=
  ⟨(Below.heap_alloc w o p (Array.getElem?_eq_some_iff.1 h.cells).1).trans h.cells, h.own.alloc o, h.low⟩
theorem OutAt.lt {w : World} {base p n : Nat} {v : Value} {bs : List UInt8} (h : OutAt w base p v bs n) : p < w.heap.size ∧ ∀ k, v.ownBlock = some k → k < w.heap.size := by
  refine ⟨(Array.getElem?_eq_some_iff.1 h.cells).1, fun k hk => ?_⟩
  rcases h.own.2 with ⟨hn, _⟩ | ⟨g', cap', cur, hv, hg, hh, _⟩
  · rw [hn] at hk; cases hk
  · rw [hv] at hk
    have : g' = k := by simpa [Value.ownBlock] using hk
    rw [← this]
    exact (Array.getElem?_eq_some_iff.1 hh).1
/-- One number of m bytes. -/
theorem bits1_t (w : World) (base p : Nat) (v : Value) (bs : List UInt8) (h : OutAt w base p v bs (8 * bs.length)) (hbase : base ≤ w.heap.size) (m : Nat) (hm1 : 1 ≤ m) (hm8 : m ≤ 8) (u : Nat) (hu : u < 18446744073709551616) (hroom : bs.length + m ≤ 65536) :
    Calls Try.prog 84 #[.pointer (some ⟨p, 0, none⟩), .int .i64 (8 * m : Nat), .slice (some ⟨w.heap.size, 0, none⟩) 1 1] (w.alloc (.cells #[.int .u64 u] 131)) fun e w' => e = .returned (.int .i64 0) ∧ ∃ v', OutAt w' base p v' (bs ++ be m u) (8 * (bs ++ be m u).length) ∧ Kept (w.alloc (.cells #[.int .u64 u] 131)) p v w' v' := by
  refine (bits_t _ base p v bs (h.alloc _) (by simp; omega) m hm1 hm8 _ [u] (rdV_one w u) ?_ (by intro x hx; simp at hx; omega) (by simpa using hroom) (by simp)).mono ?_
  · intro g hg
    have hg' : w.heap.size = g := by simpa [Value.ownBlock] using hg
    have := h.lt
    rintro (e | e)
    · omega
    · have := this.2 g e; omega
  · rintro e w' ⟨rfl, v', ho, hc, hvb⟩
    have e : bes m [u] = be m u := by simp [bes]
    rw [e] at ho
    exact ⟨rfl, v', ho, hc, hvb⟩
theorem be_byte (u : UInt8) : be 1 u.toNat = [u] := by
  have := u.toNat_lt
  simp [be, Nat.mod_eq_of_lt this]
set_option maxHeartbeats 4000000 in
theorem bytes_t (w : World) (base p : Nat) (v : Value) (bs : List UInt8) (h : OutAt w base p v bs (8 * bs.length)) (hbase : base ≤ w.heap.size) (g0 c0 : Nat) (sv : Value) (cs : List UInt8)
    (hp : w.cell? ⟨g0, 0, none⟩ = some sv) (hs : Rd w sv cs) (hb1 : ¬ (g0 = p ∨ v.ownBlock = some g0)) (hb2 : ∀ g, sv.ownBlock = some g → ¬ (g = p ∨ v.ownBlock = some g)) (hroom : bs.length + cs.length ≤ 65536) :
    Calls Try.prog 91 #[.pointer (some ⟨p, 0, none⟩), .slice (some ⟨g0, 0, none⟩) 1 c0] w fun e w' => e = .returned (.int .i64 0) ∧ ∃ v', OutAt w' base p v' (bs ++ cs) (8 * (bs ++ cs).length) ∧ Kept w p v w' v' := by
  have H := hid h
  have HB1 := hid hb1
  have HB2 := hid hb2
  have HS := hid hs
  obtain ⟨sa, sc, rfl, hs1, hs2, hs3⟩ := hs
  clear hs3 hb1 hb2 h
  go_enter Try.func91, Try.ntmps91
  go_wp2_with fail
  go_loop [5, 16] (fun x k => (x = .int .i64 0 ∧ k = .int .i64 0) ∨ (x = .int .i64 cs.length ∧ k = .int .i64 1)) (fun x k => 1 - (intOf k).toNat)
  case atStart => exact .inl ⟨rfl, rfl⟩
  case round =>
    rcases hrel with ⟨rfl, rfl⟩ | ⟨rfl, rfl⟩
    · go_wp2
      exact ⟨.inr ⟨by go_num, by go_num⟩, by simp [intOf]⟩
    · go_wp2_with fail
      have hr := room_t w base p v bs (8 * bs.length) H.out (by omega) (8 * cs.length) (by omega)
      rw [show ((8 * cs.length : Nat) : Int) = 8 * (cs.length : Int) by omega] at hr
      refine hr.mono ?_
      rintro e w' ⟨he, rfl⟩
      obtain rfl : e = .returned (.bool true) := by rw [he, decide_eq_true (by omega)]
      clear hr
      go_wp2_with fail
      go_loopw [37] (fun k wr => ∃ v', Kept w p v wr v' ∧ ((k = .int .i64 0 ∧ OutAt wr base p v' bs (8 * bs.length)) ∨ (k = .int .i64 1 ∧ OutAt wr base p v' (bs ++ cs) (8 * (bs ++ cs).length)))) (fun k _ => 1 - (intOf k).toNat)
      case atStart => exact ⟨v, Kept.refl _ _ _, .inl ⟨rfl, H.out⟩⟩
      case round =>
        obtain ⟨v1, hk, ⟨rfl, ho⟩ | ⟨rfl, ho⟩⟩ := hrel
        · have K1 := hid hk
          have H1 := hid ho
          clear hk ho
          have hv := K1.out.1.cell hp HB1.out
          go_wp2_with fail
          go_loopw [43] (fun k wt => ∃ i : Nat, k = .int .i64 i ∧ i ≤ cs.length ∧ ∃ v', Kept w p v wt v' ∧ OutAt wt base p v' (bs ++ cs.take i) (8 * (bs ++ cs.take i).length)) (fun k _ => cs.length - (intOf k).toNat)
          case atStart => exact ⟨0, rfl, by omega, v1, K1.out, by simpa using H1.out⟩
          case round =>
            obtain ⟨i, rfl, hi, v2, hk, ho⟩ := hrel
            have K2 := hid hk
            have H2 := hid ho
            clear hk ho
            by_cases hlt : i < cs.length
            · obtain ⟨_, _, hsl, _, _, hcell⟩ := HS.out
              injection hsl with e1 e2 e3
              clear e2
              subst e1 e3
              obtain ⟨g, off, rfl, hv0⟩ := hcell i _ (List.getElem?_eq_getElem hlt)
              have hv2 := K2.out.1.cell hv0 (HB2.out g rfl)
              have hut := cs[i].toNat_lt
              have HT := hid (take_snoc hlt)
              have HLN := hid (show (bs ++ cs.take i).length + 1 ≤ 65536 by rw [List.length_append, List.length_take]; omega)
              have HBU := hid (be_byte cs[i])
              generalize cs[i] = u at *
              clear hcell hv0
              obtain ⟨ds, hds⟩ : ∃ ds, bs ++ cs.take i = ds := ⟨_, rfl⟩
              have HDS := hid hds
              rw [hds] at H2 HLN
              clear hds
              go_wp2_with fail
              refine (bits1_t wr base p v2 ds H2.out (Nat.le_trans hbase K2.out.1.size) 1 (by omega) (by omega) u.toNat (by omega) HLN.out).mono ?_
              rintro e w3 ⟨rfl, v3, ho, hk⟩
              have K3 := hid ((K2.out.alloc _).trans hk)
              have hds2 : ds ++ be 1 u.toNat = bs ++ cs.take (i + 1) := by rw [HBU.out, HT.out, ← HDS.out, List.append_assoc]
              rw [hds2] at ho
              have H3 := hid ho
              clear ho hk hds2
              go_wp2
              exact ⟨⟨i + 1, by go_num, by omega, v3, K3.out, H3.out⟩, by simp [intOf]; omega⟩
            · obtain rfl : i = cs.length := by omega
              rw [List.take_length] at H2
              go_wp2
              go_roundw
              case rel => exact ⟨v2, K2.out, .inr ⟨by go_num, H2.out⟩⟩
              case measure => simp [intOf]
        · have K1 := hid hk
          have H1 := hid ho
          clear hk ho
          go_wp2
          go_ret
          exact ⟨rfl, v1, H1.out, K1.out⟩
theorem kept_below {w0 w w' : World} {base p n : Nat} {v v' : Value} {bs : List UInt8} (hb : Below base w0 w) (h : OutAt w base p v bs n) (k : Kept w p v w' v') : Below base w0 w' := by
  refine hb.trans ⟨k.1.os, k.1.tape, k.1.output, k.1.size, fun i hi => ?_⟩
  by_cases hlt : i < w.heap.size
  · refine k.1.block i hlt ?_
    rintro (e | e)
    · have := h.low; omega
    · rcases h.own.2 with ⟨hn, _⟩ | ⟨g', cap', cur, hv, hg, hh, _⟩
      · rw [hn] at e; cases e
      · rw [hv] at e
        have : g' = i := by simpa [Value.ownBlock] using e
        omega
  · have := h.lt.1; have := h.low; omega
theorem OutAt.drew {w : World} {base p n : Nat} {v : Value} {bs : List UInt8} (h : OutAt w base p v bs n) : OutAt w.drew base p v bs n := ⟨h.cells, h.own.drew, h.low⟩
end Go.Proofs.Ytjlmbmamkhneiaa.OutP
