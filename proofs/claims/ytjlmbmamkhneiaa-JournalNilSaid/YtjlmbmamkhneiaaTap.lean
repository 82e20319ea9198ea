/- The walks of one tap: tell and take. -/
import Derived.Test.YtjlmbmamkhneiaaProg
import Derived.Test.YtjlmbmamkhneiaaMem
import Derived.Test.YtjlmbmamkhneiaaSel
namespace Go.Proofs.Ytjlmbmamkhneiaa
open Go Go.RowKit Go.Conc

/-- One who listens. -/
structure TapS where
  op : Bool
  buf : List Int
  missed : Nat
def TapS.tell (cap : Nat) (t : TapS) (x : Int) : TapS :=
  if t.op = true then (if t.buf.length < cap then { t with buf := t.buf ++ [x] } else { t with missed := t.missed + 1 }) else t
def TapS.told (cap : Nat) (t : TapS) : Bool := t.op && decide (t.buf.length < cap)
/-- It stands at block p, its channel at block c. -/
structure TapAt (w : World) (p c cap : Nat) (t : TapS) : Prop where
  cells : w.heap[p]? = some (.cells #[.chan (some c), .bool t.op, I t.missed] 121 (0, 0))
  chan : ∃ s r, w.heap[c]? = some (.chan cap (t.buf.map I).toArray false s r false)
theorem TapAt.ne {w : World} {p c cap : Nat} {t : TapS} (h : TapAt w p c cap t) : p ≠ c := by
  rintro rfl
  obtain ⟨s, r, hc⟩ := h.chan
  rw [h.cells] at hc; cases hc
theorem TapAt.move {w w' : World} {p c cap : Nat} {t : TapS} (h : TapAt w p c cap t) (h1 : w'.heap[p]? = w.heap[p]?) (h2 : w'.heap[c]? = w.heap[c]?) : TapAt w' p c cap t :=
  ⟨h1.trans h.cells, let ⟨s, r, hc⟩ := h.chan; ⟨s, r, h2.trans hc⟩⟩
theorem info3 : (Try.prog.info? 3).map (fun i => (i.zero, i.size, i.bytes)) = some (some (.int .i64 0), 1, 8) := by kernel_rfl
theorem I3 : ∃ i, Try.prog.info? 3 = some i ∧ i.zero = some (.int .i64 0) ∧ i.size = 1 ∧ i.bytes = 8 := info_parts info3
theorem chg_setChan {w : World} {c : Nat} (cap : Nat) (buf : Array Value) (cl : Bool) (s r : Nat) (tm : Bool) {S : Nat → Prop} (hc : S c) : Chg S w (w.setChan c cap buf cl s r tm) :=
  ⟨rfl, rfl, rfl, by simp [World.setChan], fun k _ hk => by simp only [World.setChan]; rw [Array.getElem?_setIfInBounds_ne (fun e => hk (by rw [← e]; exact hc))]⟩
theorem heap_setChan (w : World) (c cap : Nat) (buf : Array Value) (cl : Bool) (s r : Nat) (tm : Bool) (h : c < w.heap.size) : (w.setChan c cap buf cl s r tm).heap[c]? = some (.chan cap buf cl s r tm) := by
  simp [World.setChan, h]
theorem setChan_other {w : World} {c k : Nat} (cap : Nat) (buf : Array Value) (cl : Bool) (s r : Nat) (tm : Bool) (h : k ≠ c) : (w.setChan c cap buf cl s r tm).heap[k]? = w.heap[k]? := by
  simp only [World.setChan]; rw [Array.getElem?_setIfInBounds_ne (Ne.symm h)]
theorem cells3 {w : World} {g : Nat} {t : TypeId} {x0 x1 x2 : Value} (hg : w.heap[g]? = some (.cells #[x0, x1, x2] t (0, 0))) :
    w.cell? ⟨g, 0, none⟩ = some x0 ∧ w.cell? ⟨g, 1, none⟩ = some x1 ∧ w.cell? ⟨g, 2, none⟩ = some x2 ∧ ∀ i, w.frozen? ⟨g, i, none⟩ = false :=
  ⟨by rw [cell_of_row w g 0 _ t _ hg]; rfl, by rw [cell_of_row w g 1 _ t _ hg]; rfl, by rw [cell_of_row w g 2 _ t _ hg]; rfl, fun i => frozen_of_row w g i _ t hg⟩

theorem tell_t (p c cap : Nat) (t : TapS) (x : Int) (w : World) (h : TapAt w p c cap t) (hm : t.missed < 1099511627776) :
    Calls Try.prog 72 #[.pointer (some ⟨p, 0, none⟩), I x] w fun e w' => e = .returned (.bool (t.told cap)) ∧ TapAt w' p c cap (t.tell cap x) ∧ Chg (fun k => k = p ∨ k = c) w w' := by
  have hne := h.ne
  have H := hid h
  obtain ⟨s, r, hc⟩ := h.chan
  have HC := hid hc
  obtain ⟨i, hi, hz, _, _⟩ := I3
  obtain ⟨h0, h1, h2, hf⟩ := cells3 h.cells
  clear h hc
  obtain ⟨op, buf, missed⟩ := t
  refine calls_of_wpN Try.func72 rfl ?_
  simp only [Try.ntmps72, List.size_toArray, List.length_cons, List.length_nil, Nat.reduceAdd, Nat.reduceSub, Array.replicate_succ,
     Array.replicate_zero, List.push_toArray, List.append_toArray, List.nil_append, List.cons_append]
  refine wpN_seq (wpN_of_wp ?_)
  go_wp2
  refine wpN_seq (wpN_of_wp ?_)
  cases op
  · go_wp2
    go_ret
    exact ⟨rfl, H.out, Chg.refl _ _⟩
  · go_wp2
    repeat (refine wpN_seq ?_)
    refine wpN_of_wp ?_
    go_wp2
    refine wpN_of_wp ?_
    go_wp2
    refine wpN_seq ?_
    by_cases hroom : buf.length < cap
    · refine wpN_send_room rfl rfl hi hz rfl rfl HC.out (by simpa using hroom) ?_
      go_wp2
      refine wpN_of_wp ?_
      go_wp2
      go_ret
      have hlt := lt_of_block HC.out
      refine ⟨by simp [TapS.told, hroom], ⟨(setChan_other _ _ _ _ _ _ hne).trans ?_, s + 1, r, ?_⟩, chg_setChan _ _ _ _ _ _ (.inr rfl)⟩
      · have := H.out.cells
        simp only [TapS.tell, hroom, if_true]
        exact this
      · rw [heap_setChan _ _ _ _ _ _ _ _ hlt]
        simp [TapS.tell, hroom]
    · refine wpN_send_full rfl rfl hi hz rfl rfl HC.out (by simpa using hroom) ?_
      go_wp2
      refine wpN_of_wp ?_
      go_wp2
      refine wpN_of_wp ?_
      go_wp2
      go_ret
      refine ⟨by simp [TapS.told, hroom], ⟨?_, s, r, ?_⟩, (Chg.refl _ _).setCell (fun _ => .inl rfl) _⟩
      · rw [heap_setCell_same w p 2 _ 121 _ H.out.cells]
        simp [TapS.tell, hroom]
      · rw [heap_setCell_other _ _ _ _ (Ne.symm hne), HC.out]
        simp [TapS.tell, hroom]

def TapS.took (t : TapS) : TapS := { t with buf := t.buf.drop 1 }
theorem take_t (p c cap : Nat) (t : TapS) (w : World) (h : TapAt w p c cap t) :
    Calls Try.prog 74 #[.pointer (some ⟨p, 0, none⟩)] w fun e w' => e = .returned (.tuple #[I (t.buf.headD 0), .bool (!t.buf.isEmpty)]) ∧ TapAt w' p c cap t.took ∧ Chg (fun k => k = p ∨ k = c) w w' := by
  have hne := h.ne
  have H := hid h
  obtain ⟨s, r, hc⟩ := h.chan
  have HC := hid hc
  obtain ⟨i, hi, hz, _, _⟩ := I3
  obtain ⟨h0, h1, h2, hf⟩ := cells3 h.cells
  clear h hc
  obtain ⟨op, buf, missed⟩ := t
  refine calls_of_wpN Try.func74 rfl ?_
  simp only [Try.ntmps74, List.size_toArray, List.length_cons, List.length_nil, Nat.reduceAdd, Nat.reduceSub, Array.replicate_succ,
     Array.replicate_zero, List.push_toArray, List.append_toArray, List.nil_append, List.cons_append]
  refine wpN_seq (wpN_of_wp ?_)
  go_wp2
  repeat (refine wpN_seq ?_)
  refine wpN_of_wp ?_
  go_wp2
  refine wpN_seq ?_
  cases buf with
  | nil =>
    refine wpN_recv_none rfl rfl hi hz rfl HC.out ?_
    go_wp2
    refine wpN_of_wp ?_
    go_wp2
    refine wpN_of_wp ?_
    go_wp2
    go_ret2
    exact ⟨rfl, H.out, Chg.refl _ _⟩
  | cons x rest =>
    refine wpN_recv_some rfl rfl hi hz rfl HC.out (by simp) ?_
    go_wp2
    refine wpN_of_wp ?_
    go_wp2
    go_ret2
    have hlt := lt_of_block HC.out
    refine ⟨by simp, ⟨(setChan_other _ _ _ _ _ _ hne).trans H.out.cells, s, r + 1, ?_⟩, chg_setChan _ _ _ _ _ _ (.inr rfl)⟩
    rw [heap_setChan _ _ _ _ _ _ _ _ hlt]
    simp [TapS.took, List.take_of_length_le]
end Go.Proofs.Ytjlmbmamkhneiaa
