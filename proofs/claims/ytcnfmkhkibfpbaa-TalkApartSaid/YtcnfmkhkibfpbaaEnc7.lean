/- The walk of Encode at the chapter's example. -/
import Derived.Test.YtcnfmkhkibfpbaaMay7
import Derived.Test.YtcnfmkhkibfpbaaBytes
import Derived.Laws.IdiomStrings
namespace Go.Proofs.Ytcnfmkhkibfpbaa
open Go Go.RowKit
theorem cells8 {w : World} {g : Nat} {t : TypeId} {x0 x1 x2 x3 x4 x5 x6 x7 : Value} (hg : w.heap[g]? = some (.cells #[x0, x1, x2, x3, x4, x5, x6, x7] t (0, 0))) :
    w.cell? ⟨g, 0, none⟩ = some x0 ∧ w.cell? ⟨g, 1, none⟩ = some x1 ∧ w.cell? ⟨g, 2, none⟩ = some x2 ∧ w.cell? ⟨g, 3, none⟩ = some x3 ∧ w.cell? ⟨g, 4, none⟩ = some x4 ∧ w.cell? ⟨g, 5, none⟩ = some x5 ∧
    w.cell? ⟨g, 6, none⟩ = some x6 ∧ w.cell? ⟨g, 7, none⟩ = some x7 ∧ ∀ i, w.frozen? ⟨g, i, none⟩ = false :=
  ⟨by rw [cell_of_row w g 0 _ t _ hg]; rfl, by rw [cell_of_row w g 1 _ t _ hg]; rfl, by rw [cell_of_row w g 2 _ t _ hg]; rfl, by rw [cell_of_row w g 3 _ t _ hg]; rfl, by rw [cell_of_row w g 4 _ t _ hg]; rfl,
    by rw [cell_of_row w g 5 _ t _ hg]; rfl, by rw [cell_of_row w g 6 _ t _ hg]; rfl, by rw [cell_of_row w g 7 _ t _ hg]; rfl, fun i => frozen_of_row w g i _ t hg⟩
theorem kept_below {w0 w w' : World} {base p n : Nat} {v v' : Value} {bs : List UInt8} (hb : Below base w0 w) (h : OutAt w base p v bs n) (k : Kept w p v w' v') : Below base w0 w' := by
  refine hb.trans ⟨k.1.os, k.1.tape, k.1.output, k.1.size, fun i hi => ?_⟩
  by_cases hlt : i < w.heap.size
  · refine k.1.block i hlt ?_
    rintro (e | e)
    · have := h.low; omega
    · rcases h.own.2 with ⟨hn, _⟩ | ⟨g', cap', cur, hv, hg, hh, _⟩
      · rw [hn] at e; cases e
      · rw [hv] at e
        have : g' = i := by simpa [Value.ownBlock] using e
        omega
  · have := h.lt.1; have := h.low; omega
theorem OutAt.drew {w : World} {base p n : Nat} {v : Value} {bs : List UInt8} (h : OutAt w base p v bs n) : OutAt w.drew base p v bs n := ⟨h.cells, h.own.drew, h.low⟩
/-- One text of bytes, laid by '[]byte(s)'. -/
theorem text_t (w : World) (base : Nat) (v : Value) (bs : List UInt8) (h : OutAt w base base v bs (8 * bs.length)) (hbase : base ≤ w.heap.size) (sv : Value) (cs : List UInt8) (so : Obj) (g : Nat) (hg : sv.ownBlock = some w.heap.size)
    (hs : Rd (w.alloc so) sv cs) (hgg : g = w.heap.size + 1) (hroom : bs.length + cs.length ≤ 65536) :
    Calls Try.prog 38 #[.pointer (some ⟨base, 0, none⟩), .slice (some ⟨g, 0, none⟩) 1 1] ((w.alloc so).alloc (.cells #[sv] 22)).drew fun e w' => e = .returned (.int .i64 0) ∧ ∃ v', OutAt w' base base v' (bs ++ cs) (8 * (bs ++ cs).length) ∧ Kept ((w.alloc so).alloc (.cells #[sv] 22)).drew base v w' v' := by
  subst hgg
  have hl := h.lt
  refine bytes_t _ base base v bs ((h.alloc _).alloc _).drew (by show base ≤ ((w.alloc so).alloc (.cells #[sv] 22)).heap.size; simp; omega) (w.heap.size + 1) 1 sv cs ?_ (hs.alloc _).drew ?_ ?_ hroom
  · have := heap_alloc_new (w.alloc so) (.cells #[sv] 22)
    have hh0 : ((w.alloc so).alloc (.cells #[sv] 22)).heap[w.heap.size + 1]? = some (.cells #[sv] 22 (0, 0)) := by simpa only [World.size_alloc] using this
    have hh : ((w.alloc so).alloc (.cells #[sv] 22)).drew.heap[w.heap.size + 1]? = some (.cells #[sv] 22 (0, 0)) := hh0
    rw [cell_of_row _ _ _ _ _ _ hh]; rfl
  · rintro (e | e)
    · omega
    · have := hl.2 _ e; omega
  · intro g hg2
    rw [hg] at hg2
    injection hg2 with hg2
    rintro (e | e)
    · omega
    · have := hl.2 _ e; omega
theorem U9 : Try.prog.underlying 9 = some .string := by kernel_rfl
theorem U5 : Try.prog.underlying 5 = some (.int .u8) := by kernel_rfl
theorem str_bytes (w : World) (s : ByteArray) (hs : s.size ≤ 1048576) : ∃ cap o, (convert 9 22 (.string s)).run Try.prog w = .ok (.slice (some ⟨w.heap.size, 0, none⟩) s.size cap) (w.drew.alloc o) ∧
    Rd (w.drew.alloc o) (.slice (some ⟨w.heap.size, 0, none⟩) s.size cap) s.data.toList := by
  refine ⟨_, _, run_bytes_of_string (P := Try.prog) w 9 22 5 s U9 T22.under U5, some ⟨w.heap.size, 0, none⟩, grownCap w s.size 0 5, rfl, grownCap_ge w s.size 0 5, grownCap_le_maxLen w s.size 0 5 (by unfold maxLen; omega), fun j u hu => ⟨w.heap.size, 0, rfl, ?_⟩⟩
  have hn : (w.drew.alloc (.cells (bytesRow s (grownCap w s.size 0 5)) 5 ((bytesRow s (grownCap w s.size 0 5)).size, (bytesRow s (grownCap w s.size 0 5)).size + 1))).heap[w.heap.size]? = _ := heap_alloc_new w.drew _
  rw [Nat.zero_add, cell_of_row _ _ _ _ _ _ hn]
  have hj := (List.getElem?_eq_some_iff.1 hu)
  obtain ⟨hj1, hj2⟩ := hj
  have hj3 : j < s.data.size := by simpa using hj1
  unfold bytesRow
  rw [Array.getElem?_append_left (by simpa using hj3), Array.getElem?_map]
  have : s.data[j]? = some u := by simpa using hu
  rw [this]; rfl
set_option maxRecDepth 100000 in
set_option maxHeartbeats 4000000 in
theorem encode7_t (w : World) : Calls Try.prog 22 #[.agg hello] w fun e w' => ∃ r, e = .returned (.tuple #[r, .int .i64 0]) ∧ Rd w' r [79, 83, 7, 3, 97, 110, 110] ∧ Chg (fun _ => False) w w' := by
  go_enter Try.func22, Try.ntmps22
  go_wp2_with fail
  refine (may7_t _).mono ?_
  rintro e w1 ⟨rfl, hc⟩
  have HB1 := hid ((hc.block w.heap.size (by simp) (fun e => e)).trans (heap_alloc_new w _))
  have HC1 := hid (((Chg.refl (fun _ => False) w).alloc _).trans hc (fun _ _ e => e))
  have HS1 := hid (show w.heap.size < w1.heap.size by have := hc.size; simp at this; omega)
  clear hc
  obtain ⟨c0, c1, c2, c3, c4, c5, c6, c7, c8, cf⟩ := cells9 HB1.out
  generalize hk : w.heap.size = k at *
  have HK := hid hk
  clear hk
  go_wp2_with fail
  refine (fields7_t _).mono ?_
  rintro e w2 ⟨rfl, hc⟩
  have HB2 := hid ((hc.block k HS1.out (fun e => e)).trans HB1.out)
  have HC2 := hid (HC1.out.trans hc (fun _ _ e => e))
  have HS2 := hid (Nat.lt_of_lt_of_le HS1.out hc.size)
  clear hc c0 c1 c2 c3 c4 c5 c6 c7 c8 cf
  go_wp2_with fail
  have hf3 := heap_alloc_new w2 (.cells #[.bool false, .bool false, .bool false, .bool false, .bool true, .bool false, .bool false, .bool false] 69)
  have hb3 := (Below.heap_alloc w2 (.cells #[.bool false, .bool false, .bool false, .bool false, .bool true, .bool false, .bool false, .bool false] 69) k HS2.out).trans HB2.out
  have hc3 := HC2.out.alloc (.cells #[.bool false, .bool false, .bool false, .bool false, .bool true, .bool false, .bool false, .bool false] 69)
  have hz3 := World.size_alloc w2 (.cells #[.bool false, .bool false, .bool false, .bool false, .bool true, .bool false, .bool false, .bool false] 69)
  generalize w2.alloc (.cells #[.bool false, .bool false, .bool false, .bool false, .bool true, .bool false, .bool false, .bool false] 69) = w3 at *
  have HS2' := HS2.out
  generalize hj : w2.heap.size = j at *
  clear hj
  have HF3 := hid hf3
  have HB3 := hid hb3
  have HC3 := hid hc3
  clear hf3 hb3 hc3
  refine (new_t w3 w3.heap.size (Nat.le_refl _)).mono ?_
  rintro e w4 ⟨rfl, ho, hc⟩
  have HL4 := hid hc.size
  have HE4 := hid (show Below w3.heap.size w3 w4 from ⟨hc.os, hc.tape, hc.output, hc.size, fun i hi => hc.block i hi (fun e => e)⟩)
  generalize hbs : w3.heap.size = base at *
  have HBS := hid hbs
  have H4 := hid ho
  have HKB : Hid (k < base) := hid (by omega)
  have HJB : Hid (j < base) := hid (by omega)
  obtain ⟨c0, c1, c2, c3, c4, c5, c6, c7, c8, cf⟩ := cells9 ((HE4.out.block k HKB.out).trans HB3.out)
  obtain ⟨d0, d1, d2, d3, d4, d5, d6, d7, df⟩ := cells8 ((HE4.out.block j HJB.out).trans HF3.out)
  clear ho hc hbs HS2' hz3
  go_wp2_with fail
  refine (bits1_t w4 base base (.slice none 0 0) [] H4.out (HL4.out) 2 (by omega) (by omega) 20307 (by omega) (by simp)).mono ?_
  clear c0 c1 c2 c3 c4 c5 c6 c7 c8 cf d0 d1 d2 d3 d4 d5 d6 d7 df
  rintro e w5 ⟨rfl, v5, ho, hk⟩
  have H5 : Hid (OutAt w5 base base v5 [79, 83] (8 * ([79, 83] : List UInt8).length)) := ho
  have HL5 := hid (show base ≤ w5.heap.size from Nat.le_trans (by have := HL4.out; simp; omega) hk.1.size)
  have HE5 := hid (kept_below ((HE4.out).alloc HL4.out _) (H4.out.alloc _) hk)
  obtain ⟨c0, c1, c2, c3, c4, c5, c6, c7, c8, cf⟩ := cells9 ((HE5.out.block k HKB.out).trans HB3.out)
  obtain ⟨d0, d1, d2, d3, d4, d5, d6, d7, df⟩ := cells8 ((HE5.out.block j HJB.out).trans HF3.out)
  clear ho hk
  go_wp2_with fail
  refine (bits1_t w5 base base v5 [79, 83] H5.out (HL5.out) 1 (by omega) (by omega) 7 (by omega) (by simp)).mono ?_
  clear c0 c1 c2 c3 c4 c5 c6 c7 c8 cf d0 d1 d2 d3 d4 d5 d6 d7 df
  rintro e w6 ⟨rfl, v6, ho, hk⟩
  have H6 : Hid (OutAt w6 base base v6 [79, 83, 7] (8 * ([79, 83, 7] : List UInt8).length)) := ho
  have HL6 := hid (show base ≤ w6.heap.size from Nat.le_trans (by have := HL5.out; simp; omega) hk.1.size)
  have HE6 := hid (kept_below ((HE5.out).alloc HL5.out _) (H5.out.alloc _) hk)
  obtain ⟨c0, c1, c2, c3, c4, c5, c6, c7, c8, cf⟩ := cells9 ((HE6.out.block k HKB.out).trans HB3.out)
  obtain ⟨d0, d1, d2, d3, d4, d5, d6, d7, df⟩ := cells8 ((HE6.out.block j HJB.out).trans HF3.out)
  clear ho hk
  go_wp2_with fail
  refine (bits1_t w6 base base v6 [79, 83, 7] H6.out (HL6.out) 1 (by omega) (by omega) 3 (by omega) (by simp)).mono ?_
  clear c0 c1 c2 c3 c4 c5 c6 c7 c8 cf d0 d1 d2 d3 d4 d5 d6 d7 df
  rintro e w7 ⟨rfl, v7, ho, hk⟩
  have H7 : Hid (OutAt w7 base base v7 [79, 83, 7, 3] (8 * ([79, 83, 7, 3] : List UInt8).length)) := ho
  have HL7 := hid (show base ≤ w7.heap.size from Nat.le_trans (by have := HL6.out; simp; omega) hk.1.size)
  have HE7 := hid (kept_below ((HE6.out).alloc HL6.out _) (H6.out.alloc _) hk)
  obtain ⟨c0, c1, c2, c3, c4, c5, c6, c7, c8, cf⟩ := cells9 ((HE7.out.block k HKB.out).trans HB3.out)
  obtain ⟨d0, d1, d2, d3, d4, d5, d6, d7, df⟩ := cells8 ((HE7.out.block j HJB.out).trans HF3.out)
  clear ho hk
  obtain ⟨scap, so, hconv, hsr⟩ := str_bytes w7 ann (by decide)
  go_wp2_with fail
  refine (text_t w7 base v7 [79, 83, 7, 3] H7.out HL7.out _ [97, 110, 110] so _ rfl hsr rfl (by decide)).mono ?_
  rintro e w8 ⟨rfl, v8, ho, hk⟩
  have H8 : Hid (OutAt w8 base base v8 [79, 83, 7, 3, 97, 110, 110] (8 * ([79, 83, 7, 3, 97, 110, 110] : List UInt8).length)) := ho
  have HL8 := hid (show base ≤ w8.heap.size from Nat.le_trans (by have := HL7.out; show base ≤ ((w7.alloc so).alloc _).heap.size; simp; omega) hk.1.size)
  have HE8 := hid (kept_below (((HE7.out).alloc HL7.out so).alloc (by have := HL7.out; simp; omega) _).drew ((H7.out.alloc so).alloc _).drew hk)
  clear c0 c1 c2 c3 c4 c5 c6 c7 c8 cf d0 d1 d2 d3 d4 d5 d6 d7 df hconv hsr
  obtain ⟨c0, c1, c2, c3, c4, c5, c6, c7, c8, cf⟩ := cells9 ((HE8.out.block k HKB.out).trans HB3.out)
  obtain ⟨d0, d1, d2, d3, d4, d5, d6, d7, df⟩ := cells8 ((HE8.out.block j HJB.out).trans HF3.out)
  clear ho hk
  go_wp2_with fail
  refine (done_t w8 base base v8 _ _ H8.out (by decide)).mono ?_
  rintro e w9 ⟨r, rfl, ho, hc⟩
  have HR := hid (Rd.of_owns ho)
  have HC9 := hid (HC3.out.trans (T := fun _ => False) ⟨HE8.out.os, HE8.out.tape, HE8.out.output, HE8.out.size, fun i hi _ => HE8.out.block i (by rw [← HBS.out]; exact hi)⟩ (fun _ _ e => e) |>.trans hc (fun _ _ e => e))
  clear ho hc
  go_wp2
  go_ret2
  exact ⟨r, rfl, HR.out, HC9.out⟩
end Go.Proofs.Ytcnfmkhkibfpbaa
