/- The walks of SipHash's round and word in the program. -/
import Derived.Test.YtcnfmkhkibfpbaaProg
import Derived.Test.YtcnfmkhkibfpbaaMem
namespace Go.Proofs.Ytcnfmkhkibfpbaa
open Go Go.RowKit
attribute [local go_sem] u64_xor_bv u64_add_bv u64_add_bv'

def rotl (k : Nat) (x : BitVec 64) : BitVec 64 := x <<< k ||| x >>> (64 - k)
theorem rot_t (x : BitVec 64) (k : Int) (hk : k = 13 ∨ k = 32 ∨ k = 16 ∨ k = 21 ∨ k = 17) (w : World) :
    Calls Try.prog 42 #[U64 x, .int .i64 k] w fun e w' => e = .returned (U64 (rotl k.toNat x)) ∧ w = w' := by
  have e1 : bits .and .u64 13 63 = 13 := by decide
  have e2 : bits .and .u64 32 63 = 32 := by decide
  have e3 : bits .and .u64 16 63 = 16 := by decide
  have e4 : bits .and .u64 21 63 = 21 := by decide
  have e5 : bits .and .u64 17 63 = 17 := by decide
  have r1 := rot_bv x 13 
  have r2 := rot_bv x 32 
  have r3 := rot_bv x 16 
  have r4 := rot_bv x 21 
  have r5 := rot_bv x 17
  simp only [Int.reducePow, Nat.reduceSub] at r1 r2 r3 r4 r5
  rcases hk with rfl | rfl | rfl | rfl | rfl
  all_goals
    go_enter Try.func42, Try.ntmps42
    go_wp2
    go_ret
    exact ⟨rfl, rfl⟩

theorem rot_s (x : BitVec 64) (k : Int) (hk : k = 13 ∨ k = 32 ∨ k = 16 ∨ k = 21 ∨ k = 17) (w : World) :
    Calls Try.prog 42 #[U64 x, .int .i64 k] w fun e w' => e = .returned (U64 (rotl k.toNat x)) ∧ w' = w :=
  (rot_t x k hk w).mono fun _ _ ⟨h1, h2⟩ => ⟨h1, h2.symm⟩

structure Sip where
  a : BitVec 64
  b : BitVec 64
  c : BitVec 64
  d : BitVec 64
def Sip.round (v : Sip) : Sip :=
  let a := v.a + v.b
  let b := rotl 13 v.b ^^^ a
  let a := rotl 32 a
  let c := v.c + v.d
  let d := rotl 16 v.d ^^^ c
  let a := a + d
  let d := rotl 21 d ^^^ a
  let c := c + b
  let b := rotl 17 b ^^^ c
  let c := rotl 32 c
  ⟨a, b, c, d⟩
def Sip.cells (v : Sip) : Array Value := #[U64 v.a, U64 v.b, U64 v.c, U64 v.d]

theorem put4 {w : World} {g : Nat} {t : TypeId} {cs : Array Value} (hg : w.heap[g]? = some (.cells cs t (0, 0))) (i : Nat) (v : Value) :
    (w.setCell ⟨g, i, none⟩ v).drew.heap[g]? = some (.cells (cs.setIfInBounds i v) t (0, 0)) ∧ w.grownBy (w.setCell ⟨g, i, none⟩ v).drew (some g) :=
  ⟨heap_setCell_same w g i cs t v hg, rfl, rfl, rfl, by simp [World.setCell, World.drew], fun k _ hk => heap_setCell_other w ⟨g, i, none⟩ k v (fun e => hk (by rw [e]))⟩
theorem cells4 {w : World} {g : Nat} {t : TypeId} {x0 x1 x2 x3 : Value} (hg : w.heap[g]? = some (.cells #[x0, x1, x2, x3] t (0, 0))) :
    w.cell? ⟨g, 0, none⟩ = some x0 ∧ w.cell? ⟨g, 1, none⟩ = some x1 ∧ w.cell? ⟨g, 2, none⟩ = some x2 ∧ w.cell? ⟨g, 3, none⟩ = some x3 ∧ ∀ i, w.frozen? ⟨g, i, none⟩ = false :=
  ⟨by rw [cell_of_row w g 0 _ t _ hg]; rfl, by rw [cell_of_row w g 1 _ t _ hg]; rfl, by rw [cell_of_row w g 2 _ t _ hg]; rfl, by rw [cell_of_row w g 3 _ t _ hg]; rfl, fun i => frozen_of_row w g i _ t hg⟩
theorem grown_trans {a b c : World} {r : Option Nat} (h : a.grownBy b r) (k : b.grownBy c r) : a.grownBy c r :=
  ⟨k.os.trans h.os, k.tape.trans h.tape, k.output.trans h.output, Nat.le_trans h.size k.size, fun i hi hr => (k.block i (Nat.lt_of_lt_of_le hi h.size) hr).trans (h.block i hi hr)⟩

set_option maxHeartbeats 4000000 in
theorem round_t (g : Nat) (t : TypeId) (v : Sip) (w : World) (hg : w.heap[g]? = some (.cells v.cells t (0, 0))) :
    Calls Try.prog 31 #[.pointer (some ⟨g, 0, none⟩)] w fun e w' => e = .returned (.tuple #[]) ∧ w'.heap[g]? = some (.cells v.round.cells t (0, 0)) ∧ w.grownBy w' (some g) := by
  obtain ⟨a, b, c, d⟩ := v
  have G0 : Hid (w.heap[g]? = some (.cells #[U64 a, U64 b, U64 c, U64 d] t (0, 0))) := hid hg
  clear hg
  go_enter Try.func31, Try.ntmps31
  obtain ⟨h0, h1, h2, h3, hf⟩ := cells4 G0.out
  go_wp2
  go_still_tail 11, (by kernel_rfl)
  go_wp2
  have p0 : _ = some (Obj.cells #[U64 ((a) + (b)), U64 b, U64 c, U64 d] t (0, 0)) ∧ _ := put4 G0.out 0 (U64 ((a) + (b)))
  generalize (w.setCell ⟨g, 0, none⟩ (U64 ((a) + (b)))).drew = w1 at *
  generalize hn0 : (a) + (b) = a0 at *
  have N0 := hid hn0
  clear hn0
  have G1 := hid p0.1
  have R1 := hid p0.2
  clear p0 h0 h1 h2 h3 hf
  obtain ⟨h0, h1, h2, h3, hf⟩ := cells4 G1.out
  go_wp2
  go_still_tail 13, (by kernel_rfl)
  still_call (rot_s _ 13 (by simp) _)
  repeat still_step
  refine wpStill_nil ?_
  go_wp2
  have p1 : _ = some (Obj.cells #[U64 a0, U64 (rotl 13 (b) ^^^ (a0)), U64 c, U64 d] t (0, 0)) ∧ _ := put4 G1.out 1 (U64 (rotl 13 (b) ^^^ (a0)))
  generalize (w1.setCell ⟨g, 1, none⟩ (U64 (rotl 13 (b) ^^^ (a0)))).drew = w2 at *
  generalize hn1 : rotl 13 (b) ^^^ (a0) = b1 at *
  have N1 := hid hn1
  clear hn1
  have G2 := hid p1.1
  have R2 := hid p1.2
  clear p1 h0 h1 h2 h3 hf
  obtain ⟨h0, h1, h2, h3, hf⟩ := cells4 G2.out
  go_wp2
  go_still_tail 8, (by kernel_rfl)
  still_call (rot_s _ 32 (by simp) _)
  repeat still_step
  refine wpStill_nil ?_
  go_wp2
  have p2 : _ = some (Obj.cells #[U64 (rotl 32 (a0)), U64 b1, U64 c, U64 d] t (0, 0)) ∧ _ := put4 G2.out 0 (U64 (rotl 32 (a0)))
  generalize (w2.setCell ⟨g, 0, none⟩ (U64 (rotl 32 (a0)))).drew = w3 at *
  generalize hn2 : rotl 32 (a0) = a2 at *
  have N2 := hid hn2
  clear hn2
  have G3 := hid p2.1
  have R3 := hid p2.2
  clear p2 h0 h1 h2 h3 hf
  obtain ⟨h0, h1, h2, h3, hf⟩ := cells4 G3.out
  go_wp2
  go_still_tail 11, (by kernel_rfl)
  go_wp2
  have p3 : _ = some (Obj.cells #[U64 a2, U64 b1, U64 ((c) + (d)), U64 d] t (0, 0)) ∧ _ := put4 G3.out 2 (U64 ((c) + (d)))
  generalize (w3.setCell ⟨g, 2, none⟩ (U64 ((c) + (d)))).drew = w4 at *
  generalize hn3 : (c) + (d) = c3 at *
  have N3 := hid hn3
  clear hn3
  have G4 := hid p3.1
  have R4 := hid p3.2
  clear p3 h0 h1 h2 h3 hf
  obtain ⟨h0, h1, h2, h3, hf⟩ := cells4 G4.out
  go_wp2
  go_still_tail 13, (by kernel_rfl)
  still_call (rot_s _ 16 (by simp) _)
  repeat still_step
  refine wpStill_nil ?_
  go_wp2
  have p4 : _ = some (Obj.cells #[U64 a2, U64 b1, U64 c3, U64 (rotl 16 (d) ^^^ (c3))] t (0, 0)) ∧ _ := put4 G4.out 3 (U64 (rotl 16 (d) ^^^ (c3)))
  generalize (w4.setCell ⟨g, 3, none⟩ (U64 (rotl 16 (d) ^^^ (c3)))).drew = w5 at *
  generalize hn4 : rotl 16 (d) ^^^ (c3) = d4 at *
  have N4 := hid hn4
  clear hn4
  have G5 := hid p4.1
  have R5 := hid p4.2
  clear p4 h0 h1 h2 h3 hf
  obtain ⟨h0, h1, h2, h3, hf⟩ := cells4 G5.out
  go_wp2
  go_still_tail 11, (by kernel_rfl)
  go_wp2
  have p5 : _ = some (Obj.cells #[U64 ((a2) + (d4)), U64 b1, U64 c3, U64 d4] t (0, 0)) ∧ _ := put4 G5.out 0 (U64 ((a2) + (d4)))
  generalize (w5.setCell ⟨g, 0, none⟩ (U64 ((a2) + (d4)))).drew = w6 at *
  generalize hn5 : (a2) + (d4) = a5 at *
  have N5 := hid hn5
  clear hn5
  have G6 := hid p5.1
  have R6 := hid p5.2
  clear p5 h0 h1 h2 h3 hf
  obtain ⟨h0, h1, h2, h3, hf⟩ := cells4 G6.out
  go_wp2
  go_still_tail 13, (by kernel_rfl)
  still_call (rot_s _ 21 (by simp) _)
  repeat still_step
  refine wpStill_nil ?_
  go_wp2
  have p6 : _ = some (Obj.cells #[U64 a5, U64 b1, U64 c3, U64 (rotl 21 (d4) ^^^ (a5))] t (0, 0)) ∧ _ := put4 G6.out 3 (U64 (rotl 21 (d4) ^^^ (a5)))
  generalize (w6.setCell ⟨g, 3, none⟩ (U64 (rotl 21 (d4) ^^^ (a5)))).drew = w7 at *
  generalize hn6 : rotl 21 (d4) ^^^ (a5) = d6 at *
  have N6 := hid hn6
  clear hn6
  have G7 := hid p6.1
  have R7 := hid p6.2
  clear p6 h0 h1 h2 h3 hf
  obtain ⟨h0, h1, h2, h3, hf⟩ := cells4 G7.out
  go_wp2
  go_still_tail 11, (by kernel_rfl)
  go_wp2
  have p7 : _ = some (Obj.cells #[U64 a5, U64 b1, U64 ((c3) + (b1)), U64 d6] t (0, 0)) ∧ _ := put4 G7.out 2 (U64 ((c3) + (b1)))
  generalize (w7.setCell ⟨g, 2, none⟩ (U64 ((c3) + (b1)))).drew = w8 at *
  generalize hn7 : (c3) + (b1) = c7 at *
  have N7 := hid hn7
  clear hn7
  have G8 := hid p7.1
  have R8 := hid p7.2
  clear p7 h0 h1 h2 h3 hf
  obtain ⟨h0, h1, h2, h3, hf⟩ := cells4 G8.out
  go_wp2
  go_still_tail 13, (by kernel_rfl)
  still_call (rot_s _ 17 (by simp) _)
  repeat still_step
  refine wpStill_nil ?_
  go_wp2
  have p8 : _ = some (Obj.cells #[U64 a5, U64 (rotl 17 (b1) ^^^ (c7)), U64 c7, U64 d6] t (0, 0)) ∧ _ := put4 G8.out 1 (U64 (rotl 17 (b1) ^^^ (c7)))
  generalize (w8.setCell ⟨g, 1, none⟩ (U64 (rotl 17 (b1) ^^^ (c7)))).drew = w9 at *
  generalize hn8 : rotl 17 (b1) ^^^ (c7) = b8 at *
  have N8 := hid hn8
  clear hn8
  have G9 := hid p8.1
  have R9 := hid p8.2
  clear p8 h0 h1 h2 h3 hf
  obtain ⟨h0, h1, h2, h3, hf⟩ := cells4 G9.out
  go_wp2
  go_still_tail 8, (by kernel_rfl)
  still_call (rot_s _ 32 (by simp) _)
  repeat still_step
  refine wpStill_nil ?_
  go_wp2
  have p9 : _ = some (Obj.cells #[U64 a5, U64 b8, U64 (rotl 32 (c7)), U64 d6] t (0, 0)) ∧ _ := put4 G9.out 2 (U64 (rotl 32 (c7)))
  generalize (w9.setCell ⟨g, 2, none⟩ (U64 (rotl 32 (c7)))).drew = w10 at *
  generalize hn9 : rotl 32 (c7) = c9 at *
  have N9 := hid hn9
  clear hn9
  have G10 := hid p9.1
  have R10 := hid p9.2
  clear p9 h0 h1 h2 h3 hf
  go_end0
  refine ⟨rfl, ?_, grown_trans (grown_trans (grown_trans (grown_trans (grown_trans (grown_trans (grown_trans (grown_trans (grown_trans (R1.out) R2.out) R3.out) R4.out) R5.out) R6.out) R7.out) R8.out) R9.out) R10.out⟩
  have E : (Sip.mk a b c d).round = ⟨a5, b8, c9, d6⟩ := by
    simp only [Sip.round, N0.out, N1.out, N2.out, N3.out, N4.out, N5.out, N6.out, N7.out, N8.out, N9.out]
  rw [E]
  exact G10.out
end Go.Proofs.Ytcnfmkhkibfpbaa
