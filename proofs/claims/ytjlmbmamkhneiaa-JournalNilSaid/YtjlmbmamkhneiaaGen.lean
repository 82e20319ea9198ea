/- The walk of Journal.generation where no head tells one. -/
import Derived.Test.YtjlmbmamkhneiaaTrm
import Derived.Test.YtjlmbmamkhneiaaEql
import Derived.Test.YtjlmbmamkhneiaaHed
namespace Go.Proofs.Ytjlmbmamkhneiaa
open Go Go.RowKit
set_option maxRecDepth 100000
theorem head_ne (c : List UInt8) (gen : Nat) (h : c.take 1 ≠ [79]) : c.take 10 ≠ OutP.be 2 20298 ++ OutP.be 4 gen ++ OutP.be 4 (OutP.crcN (OutP.be 2 20298 ++ OutP.be 4 gen)) := by
  intro e
  apply h
  have e1 : (c.take 10).take 1 = c.take 1 := by rw [List.take_take]; rfl
  rw [← e1, e, List.append_assoc, List.take_append_of_le_length (by simp [OutP.be_len])]
  rfl
set_option maxHeartbeats 4000000 in
theorem generation_t {S : Nat → Prop} (w : World) (j d size gen0 term used many : Nat) (D : DevS) (h : JIs w j d size gen0 term used many) (hd : DevAt S w d D) (hdn : D.down = false) (hs : 2 ≤ D.lasts.length) (h0 : ∀ k, k < 2 → (D.block k).take 1 ≠ [79]) :
    Calls Try.prog 62 #[.pointer (some ⟨j, 0, none⟩)] w fun e w' => e = .returned (.int .u32 0) ∧ New w w' := by
  have hok := hd.okk
  have H0 := hid h0
  have HJ := hid h
  have HD := hid hd
  clear h hd h0
  go_enter Try.func62, Try.ntmps62
  go_wp2_with fail
  go_loopw [3, 9] (fun v k wr => ∃ m : Nat, v = .int .u32 0 ∧ k = .int .i64 m ∧ m ≤ 2 ∧ New w wr) (fun _ k _ => 2 - (intOf k).toNat)
  case atStart => exact ⟨0, rfl, rfl, by omega, Chg.refl _ w⟩
  case round =>
    obtain ⟨W0, rfl⟩ : ∃ W0 : World, W0 = wr := ⟨_, rfl⟩
    obtain ⟨m, rfl, rfl, hm, hC⟩ := hrel
    have C1 := hid hC
    have J1 := hid (HJ.out.chg hC (fun e => e))
    have D1 := hid (HD.out.new hC)
    clear hC
    by_cases hlt : m < 2
    · have c0 : W0.cell? ⟨j, 0, none⟩ = some (.pointer (some ⟨d, 0, none⟩)) := (cells7 J1.out).1
      have hm1 : IntKind.i64.wrap ((m : Int) + 1) = ((m + 1 : Nat) : Int) := by rw [IntKind.wrap_i64]; omega
      have hne := H0.out m hlt
      have hbl := block_len hok (i := m) (by omega)
      go_wp2_with fail
      refine (read_t (S := S) (D := D) D1.out hdn m (by omega)).mono ?_
      rintro e w2 ⟨ra, rc, rfl, ho, hn⟩
      have C2 := hid (C1.out.trans hn (fun _ _ e => e))
      have R2 := hid (show Rd w2 (.slice ra 64 rc) (D.block m) from Rd.ofB ho)
      have hrc := R2.out.cap.2.1
      have RQ2 := hid (fun g (hg : (Value.slice ra 64 rc).ownBlock = some g) => (owns_block ho hg).2.1)
      clear ho hn c0
      generalize D.block m = bl at *
      go_wp2_with fail
      refine (of_t w2 _ bl R2.out (by omega)).mono ?_
      rintro e w3 ⟨q, vb, rfl, hi, hn, hqn, _⟩
      have C3 := hid (C2.out.trans hn (fun _ _ e => e))
      have R3 := hid (show Rd w3 (.slice ra 64 rc) bl from R2.out.move (w' := w3) fun g hg hl => hn.block g hl (fun e => e))
      have I3 := hid hi
      have RQ := hid (fun g (hg : (Value.slice ra 64 rc).ownBlock = some g) => Nat.lt_of_lt_of_le (RQ2.out g hg) hqn)
      have hqn : w.heap.size ≤ q := Nat.le_trans C2.out.size hqn
      clear hn hi
      go_wp2_with fail
      have P4 := hid (heap_alloc_new w3 (.cells #[.pointer (some ⟨q, 0, none⟩)] 130))
      have I4 := hid (I3.out.alloc (.cells #[.pointer (some ⟨q, 0, none⟩)] 130))
      have C4 := hid (C3.out.alloc (.cells #[.pointer (some ⟨q, 0, none⟩)] 130))
      have R4 := hid (R3.out.alloc (.cells #[.pointer (some ⟨q, 0, none⟩)] 130))
      have Q4 := hid (show q ≠ w3.heap.size from by have := lt_of_block I3.out.cells; omega)
      have QN := hid hqn
      clear I3 C3 R3 hqn
      generalize w3.alloc (.cells #[.pointer (some ⟨q, 0, none⟩)] 130) = w4 at *
      generalize w3.heap.size = p at *
      refine (inBits_t w4 q vb bl (8 * 0) 16 I4.out (by omega) (by omega) (by omega)).mono ?_
      rintro e w5 ⟨rfl, hi, hc⟩
      have C5 := hid (C4.out.trans hc (fun i hi e => by have := QN.out; omega))
      have R5 := hid (show Rd w5 (.slice ra 64 rc) bl from R4.out.move (w' := w5) fun g hg hl => hc.block g hl (fun e => by have := RQ.out g hg; have := QN.out; omega))
      have P5 := hid ((hc.block p (lt_of_block P4.out) (fun e => Q4.out e.symm)).trans P4.out)
      have I5 := hid hi
      have c5 : w5.cell? ⟨p, 0, none⟩ = some (.pointer (some ⟨q, 0, none⟩)) := by rw [cell_of_row _ _ 0 _ _ _ P5.out]; rfl
      clear hi hc
      go_wp2_with fail
      refine (word_t w5 q vb bl 2 I5.out (by omega)).mono ?_
      rintro e w6 ⟨rfl, hi, hc⟩
      have hg32 : beV ((bl.drop 2).take 4) < 4294967296 := by rw [← inV_bytes bl 2 4 (by omega)]; exact inV_lt _ _ 32
      generalize beV ((bl.drop 2).take 4) = gn at *
      have C6 := hid (C5.out.trans hc (fun i hi e => by have := QN.out; omega))
      have R6 := hid (show Rd w6 (.slice ra 64 rc) bl from R5.out.move (w' := w6) fun g hg hl => hc.block g hl (fun e => by have := RQ.out g hg; have := QN.out; omega))
      have hne' := head_ne bl gn hne
      clear hi hc c5
      have hd10 : decide (bl.take 10 = OutP.be 2 20298 ++ OutP.be 4 gn ++ OutP.be 4 (OutP.crcN (OutP.be 2 20298 ++ OutP.be 4 gn))) = false := decide_eq_false hne'
      have HD10 := hid hd10
      have HN' := hid hne'
      have RD := hid (show Rd w6.drew (.slice ra 64 rc) bl from R6.out)
      have CD := hid (show New w w6.drew from C6.out.drewN 1)
      clear hd10 hne' hne
      go_wp2_with fail
      refine wp_region_held_drew (S := fun _ => True) (by kernel_rfl) trivial (fun hHeld => ?_)
      refine wpAnyH_take (i := 0) (oi := { dst := some 29, op := Op.move (Operand.tmp 5), type := 22, pos := "journal.go:115", after := #[], guard := none }) (v := .slice ra 64 rc) rfl (by kernel_rfl) (by kernel_rfl) (by kernel_rfl) (fun _ _ _ h => h) (Or.inl ⟨by rfl, ?_⟩) (by assumption) ?_
      · (intro w hSw; go_simp; first | done | with_reducible rfl | (intro hh; exfalso; omega))
      try simp only [Act.put, List.setIfInBounds_toArray, List.set_cons_zero, List.set_cons_succ]
      refine wpAnyH_take (i := 1) (oi := { dst := some 30, op := Op.slice 22 (Operand.tmp 29) none (some (Operand.const (Value.int IntKind.i64 10))) none, type := 22, pos := "journal.go:115", after := #[{ on := 0, ground := Ground.data }], guard := none }) (v := .slice ra 10 rc) rfl (by kernel_rfl) (by kernel_rfl) (by kernel_rfl) (fun _ _ _ h => h) (Or.inl ⟨by rfl, ?_⟩) (by assumption) ?_
      · (intro w hSw; go_simp; first | done | with_reducible rfl | (intro hh; exfalso; omega))
      try simp only [Act.put, List.setIfInBounds_toArray, List.set_cons_zero, List.set_cons_succ]
      refine wpAnyH_take (i := 2) (oi := { dst := some 31, op := Op.move (Operand.tmp 8), type := 100, pos := "journal.go:115", after := #[], guard := none }) (v := .int .u32 gn) rfl (by kernel_rfl) (by kernel_rfl) (by kernel_rfl) (fun _ _ _ h => h) (Or.inl ⟨by rfl, ?_⟩) (by assumption) ?_
      · (intro w hSw; go_simp; first | done | with_reducible rfl | (intro hh; exfalso; omega))
      try simp only [Act.put, List.setIfInBounds_toArray, List.set_cons_zero, List.set_cons_succ]
      refine wpAnyH_ready (rs := [3]) (by kernel_rfl) (by simp) ?_
      refine AllReadyH.cons (o := { dst := some 32, op := Op.call { callee := Callee.value (Operand.func 71), args := #[Operand.tmp 31], argTypes := #[100] }, type := 22, pos := "journal.go:115", after := #[{ on := 2, ground := Ground.data }], guard := none }) rfl (fun K hK => ?_) AllReadyH.nil
      go_simp
      refine (OutP.head_t _ gn hg32).mono ?_
      rintro e w7 ⟨hr, rfl, hrd, hc7⟩
      have R7 := hid (Rd.ofP hrd)
      have C7 := hid (Chg.ofP hc7)
      clear hrd hc7
      go_simp
      refine hK.out _ _ trivial (fun _ => ?_)
      clear hK K
      try simp only [Act.put, List.setIfInBounds_toArray, List.set_cons_zero, List.set_cons_succ]
      refine wpAnyH_ready (rs := [4]) (by kernel_rfl) (by simp) ?_
      refine AllReadyH.cons (o := { dst := some 33, op := Op.call { callee := Callee.value (Operand.func 80), args := #[Operand.tmp 30, Operand.tmp 32], argTypes := #[22, 22] }, type := 4, pos := "journal.go:115", after := #[{ on := 1, ground := Ground.data }, { on := 3, ground := Ground.data }, { on := 3, ground := Ground.chain }], guard := none }) rfl (fun K hK => ?_) AllReadyH.nil
      go_simp
      refine (equal_t _ _ _ (bl.take 10) _ ((show Rd w7 (.slice ra 64 rc) bl from RD.out.move (w' := w7) fun g hg hl => C7.out.block g hl (fun e => e)).take 10 (by omega)) R7.out (by rw [List.length_take]; omega) (by simp [OutP.be_len])).mono ?_
      rw [HD10.out]
      rintro e w8 ⟨rfl, nd, rfl⟩
      go_simp
      refine hK.out _ _ trivial (fun _ => ?_)
      clear hK K
      try simp only [Act.put, List.setIfInBounds_toArray, List.set_cons_zero, List.set_cons_succ]
      refine wpAnyH_take (i := 5) (oi := { dst := some 34, op := Op.move (Operand.tmp 33), type := 4, pos := "journal.go:115", after := #[{ on := 4, ground := Ground.data }, { on := 4, ground := Ground.chain }], guard := none }) (v := .bool false) rfl (by kernel_rfl) (by kernel_rfl) (by kernel_rfl) (fun _ _ _ h => h) (Or.inl ⟨by rfl, ?_⟩) (by assumption) ?_
      · (intro w hSw; go_simp; first | done | with_reducible rfl | (intro hh; exfalso; omega))
      try simp only [Act.put, List.setIfInBounds_toArray, List.set_cons_zero, List.set_cons_succ]
      refine wpAnyH_take (i := 6) (oi := { dst := some 35, op := Op.move (Operand.tmp 8), type := 100, pos := "journal.go:115", after := #[{ on := 5, ground := Ground.guard }], guard := some (5, true) }) (v := undef) rfl (by kernel_rfl) (by kernel_rfl) (by kernel_rfl) (fun _ _ _ h => h) (Or.inr ⟨by kernel_rfl, rfl⟩) (by assumption) ?_
      try simp only [Act.put, List.setIfInBounds_toArray, List.set_cons_zero, List.set_cons_succ]
      refine wpAnyH_take (i := 7) (oi := { dst := some 36, op := Op.binOp BinOp.rem 100 (Operand.tmp 35) (Operand.const (Value.int IntKind.u32 2)) 100, type := 100, pos := "journal.go:115", after := #[{ on := 6, ground := Ground.data }, { on := 5, ground := Ground.guard }], guard := some (5, true) }) (v := undef) rfl (by kernel_rfl) (by kernel_rfl) (by kernel_rfl) (fun _ _ _ h => h) (Or.inr ⟨by kernel_rfl, rfl⟩) (by assumption) ?_
      try simp only [Act.put, List.setIfInBounds_toArray, List.set_cons_zero, List.set_cons_succ]
      refine wpAnyH_take (i := 8) (oi := { dst := some 37, op := Op.convert 100 3 (Operand.tmp 36), type := 3, pos := "journal.go:115", after := #[{ on := 7, ground := Ground.data }, { on := 5, ground := Ground.guard }], guard := some (5, true) }) (v := undef) rfl (by kernel_rfl) (by kernel_rfl) (by kernel_rfl) (fun _ _ _ h => h) (Or.inr ⟨by kernel_rfl, rfl⟩) (by assumption) ?_
      try simp only [Act.put, List.setIfInBounds_toArray, List.set_cons_zero, List.set_cons_succ]
      refine wpAnyH_take (i := 9) (oi := { dst := some 38, op := Op.move (Operand.tmp 4), type := 3, pos := "journal.go:115", after := #[{ on := 5, ground := Ground.guard }], guard := some (5, true) }) (v := undef) rfl (by kernel_rfl) (by kernel_rfl) (by kernel_rfl) (fun _ _ _ h => h) (Or.inr ⟨by kernel_rfl, rfl⟩) (by assumption) ?_
      try simp only [Act.put, List.setIfInBounds_toArray, List.set_cons_zero, List.set_cons_succ]
      refine wpAnyH_take (i := 10) (oi := { dst := some 39, op := Op.binOp BinOp.eql 3 (Operand.tmp 37) (Operand.tmp 38) 3, type := 4, pos := "journal.go:115", after := #[{ on := 8, ground := Ground.data }, { on := 9, ground := Ground.data }, { on := 5, ground := Ground.guard }], guard := some (5, true) }) (v := undef) rfl (by kernel_rfl) (by kernel_rfl) (by kernel_rfl) (fun _ _ _ h => h) (Or.inr ⟨by kernel_rfl, rfl⟩) (by assumption) ?_
      try simp only [Act.put, List.setIfInBounds_toArray, List.set_cons_zero, List.set_cons_succ]
      refine wpAnyH_take (i := 11) (oi := { dst := some 40, op := Op.pick (Operand.tmp 34) (Operand.tmp 39) (Operand.const (Value.bool false)), type := 4, pos := "journal.go:115", after := #[{ on := 5, ground := Ground.data }, { on := 10, ground := Ground.data }], guard := none }) (v := .bool false) rfl (by kernel_rfl) (by kernel_rfl) (by kernel_rfl) (fun _ _ _ h => h) (Or.inl ⟨by rfl, ?_⟩) (by assumption) ?_
      · (intro w hSw; go_simp; first | done | with_reducible rfl | (intro hh; exfalso; omega))
      try simp only [Act.put, List.setIfInBounds_toArray, List.set_cons_zero, List.set_cons_succ]
      refine wpAnyH_done (by kernel_rfl) ?_ _
      go_wp2_with fail
      exact ⟨⟨m + 1, rfl, rfl, by omega, (CD.out.trans C7.out (fun _ _ e => e)).drewN nd⟩, by simp [intOf]; omega⟩
    · obtain rfl : m = 2 := by omega
      go_wp2_with fail
      go_ret
      exact ⟨rfl, C1.out⟩
end Go.Proofs.Ytjlmbmamkhneiaa
